/- Which patches may be: the program's Check. -/
import Derived.Test.YtbbfhchceimflaaDoorPbB
set_option linter.unusedSimpArgs false
set_option linter.unusedVariables false
namespace Go.Pb
open Go Go.Sl Go.Lb Go.Pa Go.Oc
def lineOk (s : By) : Bool := decide (s.length ≤ 200) && !s.contains 10
def addsM (p : Pch) (o : Op1) : Bool :=
  !(o.lines == []) && !decide (o.up = o.down) && o.lines.all lineOk && (decide (o.up = topV) || ownM p o.up) && (decide (o.down = botV) || ownM p o.down)
def killsM (p : Pch) (o : Op1) : Bool := ownM p o.up && decide (o.down = topV) && (o.lines == [])
def opM (p : Pch) (o : Op1) : Bool := pathM o.path && (if o.kind = 1 then addsM p o else if o.kind = 2 then killsM p o else false)
def risesM : By → List By → Bool
  | _, [] => true
  | a, b :: r => Op.bytesLess a b && risesM b r
def depsM (l : List By) : Bool := decide (l.length ≤ 16) && risesM zeroH l
def linesN (l : List Op1) : Nat := (l.map fun o => o.lines.length).sum
def headM2 (p : Pch) : Bool := nameM p.author && (decide (0 ≤ p.time) && (decide (p.time ≤ 1099511627776) && decide (p.note.length ≤ 200)))
def checkM (p : Pch) : Int :=
  if headM2 p = false then 100 else if depsM p.deps = false then 101 else if p.ops.length = 0 ∨ 16 < p.ops.length then 102
  else if p.ops.all (opM p) = false then 102 else if 64 < linesN p.ops then 102 else 0
theorem idx10 (s : By) : decide (0 ≤ idxI s 10) = s.contains 10 := by
  unfold idxI
  cases hf : s.findIdx? (· == (10 : UInt8)) with
  | none =>
    have h1 := List.findIdx?_eq_none_iff.1 hf
    have : s.contains 10 = false := by
      rw [List.contains_eq_mem]
      refine decide_eq_false fun hm => ?_
      have := h1 10 hm; simp at this
    rw [this]; rfl
  | some i =>
    obtain ⟨hi, h1, _⟩ := List.findIdx?_eq_some_iff_getElem.1 hf
    have : s.contains 10 = true := by
      rw [List.contains_eq_mem]
      refine decide_eq_true ?_
      have : s[i] = 10 := by simpa using h1
      rw [← this]; exact List.getElem_mem hi
    rw [this]; exact decide_eq_true (by show (0 : Int) ≤ (i : Int); omega)
abbrev topL : List Value := [.int .u8 0, .int .u8 0, .int .u8 0, .int .u8 0, .int .u8 0, .int .u8 0, .int .u8 0, .int .u8 0, .int .u8 0, .int .u8 0, .int .u8 0, .int .u8 0, .int .u8 0, .int .u8 0, .int .u8 0, .int .u8 0, .int .u8 0, .int .u8 0, .int .u8 0, .int .u8 0, .int .u8 0, .int .u8 0, .int .u8 0, .int .u8 0, .int .u8 0, .int .u8 0, .int .u8 0, .int .u8 0, .int .u8 0, .int .u8 0, .int .u8 0, .int .u8 0, .int .i64 0]
theorem topL_eq : vxC topV = topL := rfl
theorem eq_top {a : Vx} (ha : a.Ok) : EqlAt Go.Proofs.Tryd.prog 57 (vxC a) topL (decide (a = topV)) := topL_eq ▸ eq_vx ha topV_ok
set_option maxRecDepth 100000
set_option maxHeartbeats 4000000
attribute [local irreducible] GK GO Yl Wt Ef Hd GH KH wpListIn Code.wpIn toBody roundQ poolOf rs RS YieldOk IterOk VOk row star exs mp lp Sat pt FnOk Rd bodyPost bodyPostM Lv Ret Exit.then Exit.inBlock Exit.noGoto Int.decLt Int.decLe Int.instDecidableEq
attribute [local irreducible] u8s hs strs vxC opC placeI pathM nameM ownM lineOk topV botV addsM killsM opM depsM risesM headM2
set_option pp.deepTerms true
set_option pp.maxSteps 1000000
variable {hF H : Hp}
theorem adds_ok {p : Pch} {dv ov : Value} (hp : PaAt H p dv ov) (ho : p.Ok) (hb0 : Bot H) {x : Op1 × Value} (hx : x.1.Ok) (hl : rs H x.2 x.1.lines.length 1 (strs x.1.lines)) :
    FnOk Go.Proofs.Tryd.prog 77 [.agg ⟨paC p dv ov⟩, .agg ⟨opC x⟩] [poolOf H] hF (fun r Γ => r = .bool (addsM p x.1) ∧ Γ = [poolOf H]) := by
  obtain ⟨eb, fzb, hbot⟩ := hb0
  obtain ⟨lp, lc, hlv, hlc, hll, hlr⟩ := rs.out hl
  have c1 : (opC x)[0 + 68]? = some (.slice lp x.1.lines.length lc) := by rw [← hlv]; exact opC_lines hx
  have c2 : At (opC x) (0 + 2) (vxC x.1.up) := opC_up x
  have c3 : At (opC x) (0 + 35) (vxC x.1.down) := opC_down hx
  have z1 := vxC_len hx.up
  have z2 := vxC_len hx.down
  have z3 := vxC_len botV_ok
  have z0 : At (vxC botV) 0 (vxC botV) := At.all _
  have e1 := eq_vx hx.up hx.down
  have e2 := eq_top hx.up
  have e3 := eq_vx hx.down botV_ok
  have ap : At (paC p dv ov) 0 (paC p dv ov) := At.all _
  have apl : (paC p dv ov).length = 5 := rfl
  have hln := hx.lines
  refine FnOk.intro 56 Go.Proofs.Tryd.func77 rfl rfl fun w0 => ?_
  (repeat' (first | refine GK.ro ?_ | (refine GK.box ?_; intro bl) | (refine GK.mkMap ?_; intro bm) | (refine GK.build0 tb ?_; intro bs) | (first | refine G.condP rfl (fun hb => ?_) (fun hb => ?_) | refine G.condN rfl (fun hb => ?_) (fun hb => ?_) | refine G.cond rfl (fun hb => ?_) (fun hb => ?_)) | ((fail_if_success refine GL.fork (b := true) rfl rfl ?_ ?_); (fail_if_success refine GL.fork (b := false) rfl rfl ?_ ?_); first | refine GL.forkP rfl rfl (fun hb => ?_) (fun hb => ?_) | refine GL.forkN rfl rfl (fun hb => ?_) (fun hb => ?_) | refine GL.fork rfl rfl (fun hb => ?_) (fun hb => ?_)) | ((fail_if_success refine GL.forkPick (b := true) rfl ?_ ?_); (fail_if_success refine GL.forkPick (b := false) rfl ?_ ?_); refine GL.forkPick rfl (fun hb => ?_) (fun hb => ?_))))
  · refine GQ.fin1 rfl (Rv.tmp rfl) (fun _ s => Sat.sub (by repeat (first | exact SubR.nil | apply SubR.cons 0 rfl | apply SubR.cons 1 rfl | apply SubR.cons 2 rfl | apply SubR.cons 3 rfl | apply SubR.cons 4 rfl | apply SubR.cons 5 rfl | apply SubR.cons 6 rfl | apply SubR.cons 7 rfl | apply SubR.cons 8 rfl | apply SubR.cons 9 rfl | apply SubR.cons 10 rfl | apply SubR.cons 11 rfl | apply SubR.cons 12 rfl | apply SubR.cons 13 rfl | apply SubR.cons 14 rfl | apply SubR.cons 15 rfl)) s) ⟨?_, rfl⟩
    have : x.1.lines = [] := List.length_eq_zero_iff.1 (by omega)
    unfold addsM; rw [this]; rfl
  · refine GQ.fin1 rfl (Rv.tmp rfl) (fun _ s => Sat.sub (by repeat (first | exact SubR.nil | apply SubR.cons 0 rfl | apply SubR.cons 1 rfl | apply SubR.cons 2 rfl | apply SubR.cons 3 rfl | apply SubR.cons 4 rfl | apply SubR.cons 5 rfl | apply SubR.cons 6 rfl | apply SubR.cons 7 rfl | apply SubR.cons 8 rfl | apply SubR.cons 9 rfl | apply SubR.cons 10 rfl | apply SubR.cons 11 rfl | apply SubR.cons 12 rfl | apply SubR.cons 13 rfl | apply SubR.cons 14 rfl | apply SubR.cons 15 rfl)) s) ⟨?_, rfl⟩
    unfold addsM; simp_all
  rename_i bp h0
  have hud : decide (x.1.up = x.1.down) = false := decide_eq_false hb
  have hne : (x.1.lines == []) = false := by
    cases hq : x.1.lines with
    | nil => exact absurd (by rw [hq]; rfl) h0
    | cons a r => rfl
  refine GK.weak (fr' := [(2, .pointer (some ⟨bp, 0, none⟩)), (3, .pointer (some ⟨bl, 0, none⟩)), (19, .slice lp x.1.lines.length lc), (20, .int .i64 (x.1.lines.length : Int)), (21, .int .i64 ((0 : Nat) : Int))]) (Γ' := [blk bp 25 (0, 0) (paC p dv ov), blk bl 59 (0, 0) (opC x), poolOf H]) (by repeat (first | exact trivial | refine ⟨rfl, ?_⟩)) (fun _ s => Sat.sub (by repeat (first | exact SubR.nil | apply SubR.cons 0 rfl | apply SubR.cons 1 rfl | apply SubR.cons 2 rfl | apply SubR.cons 3 rfl | apply SubR.cons 4 rfl | apply SubR.cons 5 rfl | apply SubR.cons 6 rfl | apply SubR.cons 7 rfl | apply SubR.cons 8 rfl | apply SubR.cons 9 rfl | apply SubR.cons 10 rfl | apply SubR.cons 11 rfl | apply SubR.cons 12 rfl | apply SubR.cons 13 rfl | apply SubR.cons 14 rfl | apply SubR.cons 15 rfl)) s) (G.loopN (fun i : Nat => x.1.lines.length - i) (fun i => [(2, .pointer (some ⟨bp, 0, none⟩)), (3, .pointer (some ⟨bl, 0, none⟩)), (19, .slice lp x.1.lines.length lc), (20, .int .i64 (x.1.lines.length : Int)), (21, .int .i64 (i : Int))]) (fun _ => [blk bp 25 (0, 0) (paC p dv ov), blk bl 59 (0, 0) (opC x), poolOf H])
    (fun i => i ≤ x.1.lines.length ∧ upTo x.1.lines lineOk i) (fun i hi n hn' => ?_) 0 ⟨Nat.zero_le _, by unfold upTo; intro j c hj; omega⟩)
  obtain ⟨hi, hu⟩ := hi
  (repeat (first | refine GK.ro ?_ | (refine GK.box ?_; intro bl) | (refine GK.mkMap ?_; intro bm) | (refine GK.build0 tb ?_; intro bs)))
  (first | refine G.condP rfl (fun hb => ?_) (fun hb => ?_) | refine G.condN rfl (fun hb => ?_) (fun hb => ?_) | refine G.cond rfl (fun hb => ?_) (fun hb => ?_))
  · obtain ⟨q, hq⟩ : ∃ q, x.1.lines[i]? = some q := ⟨_, List.getElem?_eq_getElem (by omega)⟩
    have hql := hx.line q (List.mem_of_getElem? hq)
    obtain ⟨bb, o, cs, et, fz, rfl, hbb, hat⟩ := hlr (by omega)
    have hq' : cs[o + (i : Int).toNat * 1]? = some (str q) := by
      have := hat i _ (strs_get hq); simpa using this
    have bad : lineOk q = false → addsM p x.1 = false := fun h => by
      have h2 := all_get hq h
      unfold addsM; rw [h2]; simp
    (repeat' (first | refine GK.ro ?_ | (refine GK.box ?_; intro bl) | (refine GK.mkMap ?_; intro bm) | (refine GK.build0 tb ?_; intro bs) | (first | refine G.condP rfl (fun hb => ?_) (fun hb => ?_) | refine G.condN rfl (fun hb => ?_) (fun hb => ?_) | refine G.cond rfl (fun hb => ?_) (fun hb => ?_)) | ((fail_if_success refine GL.fork (b := true) rfl rfl ?_ ?_); (fail_if_success refine GL.fork (b := false) rfl rfl ?_ ?_); first | refine GL.forkP rfl rfl (fun hb => ?_) (fun hb => ?_) | refine GL.forkN rfl rfl (fun hb => ?_) (fun hb => ?_) | refine GL.fork rfl rfl (fun hb => ?_) (fun hb => ?_)) | ((fail_if_success refine GL.forkPick (b := true) rfl ?_ ?_); (fail_if_success refine GL.forkPick (b := false) rfl ?_ ?_); refine GL.forkPick rfl (fun hb => ?_) (fun hb => ?_))))
    · refine GQ.fin1 rfl (Rv.tmp rfl) (fun _ s => Sat.sub (by repeat (first | exact SubR.nil | apply SubR.cons 0 rfl | apply SubR.cons 1 rfl | apply SubR.cons 2 rfl | apply SubR.cons 3 rfl | apply SubR.cons 4 rfl | apply SubR.cons 5 rfl | apply SubR.cons 6 rfl | apply SubR.cons 7 rfl | apply SubR.cons 8 rfl | apply SubR.cons 9 rfl | apply SubR.cons 10 rfl | apply SubR.cons 11 rfl | apply SubR.cons 12 rfl | apply SubR.cons 13 rfl | apply SubR.cons 14 rfl | apply SubR.cons 15 rfl)) s) ⟨?_, rfl⟩
      rw [bad (by unfold lineOk; rw [decide_eq_false (by omega)]; rfl)]
    refine GL.cons ?_; refine GO.callA (fun hF' hle hH => sIndexByte_ok q 10) (by first | exact Wt.none | exact Wt.some rfl rfl (by first | exact rfl | decide +kernel)) (by kernel_rfl) rfl rfl (by repeat (first | exact SubR.nil | apply SubR.cons 0 rfl | apply SubR.cons 1 rfl | apply SubR.cons 2 rfl | apply SubR.cons 3 rfl | apply SubR.cons 4 rfl | apply SubR.cons 5 rfl | apply SubR.cons 6 rfl | apply SubR.cons 7 rfl | apply SubR.cons 8 rfl | apply SubR.cons 9 rfl | apply SubR.cons 10 rfl | apply SubR.cons 11 rfl | apply SubR.cons 12 rfl | apply SubR.cons 13 rfl | apply SubR.cons 14 rfl | apply SubR.cons 15 rfl)) ?_
    rintro v Γ' ⟨rfl, rfl⟩
    (repeat (first | refine GK.ro ?_ | (refine GK.box ?_; intro bl) | (refine GK.mkMap ?_; intro bm) | (refine GK.build0 tb ?_; intro bs)))
    rw [idx10]
    (repeat' (first | refine GK.ro ?_ | (refine GK.box ?_; intro bl) | (refine GK.mkMap ?_; intro bm) | (refine GK.build0 tb ?_; intro bs) | (first | refine G.condP rfl (fun hb => ?_) (fun hb => ?_) | refine G.condN rfl (fun hb => ?_) (fun hb => ?_) | refine G.cond rfl (fun hb => ?_) (fun hb => ?_)) | ((fail_if_success refine GL.fork (b := true) rfl rfl ?_ ?_); (fail_if_success refine GL.fork (b := false) rfl rfl ?_ ?_); first | refine GL.forkP rfl rfl (fun hb => ?_) (fun hb => ?_) | refine GL.forkN rfl rfl (fun hb => ?_) (fun hb => ?_) | refine GL.fork rfl rfl (fun hb => ?_) (fun hb => ?_)) | ((fail_if_success refine GL.forkPick (b := true) rfl ?_ ?_); (fail_if_success refine GL.forkPick (b := false) rfl ?_ ?_); refine GL.forkPick rfl (fun hb => ?_) (fun hb => ?_))))
    · refine GQ.fin1 rfl (Rv.tmp rfl) (fun _ s => Sat.sub (by repeat (first | exact SubR.nil | apply SubR.cons 0 rfl | apply SubR.cons 1 rfl | apply SubR.cons 2 rfl | apply SubR.cons 3 rfl | apply SubR.cons 4 rfl | apply SubR.cons 5 rfl | apply SubR.cons 6 rfl | apply SubR.cons 7 rfl | apply SubR.cons 8 rfl | apply SubR.cons 9 rfl | apply SubR.cons 10 rfl | apply SubR.cons 11 rfl | apply SubR.cons 12 rfl | apply SubR.cons 13 rfl | apply SubR.cons 14 rfl | apply SubR.cons 15 rfl)) s) ⟨?_, rfl⟩
      rw [bad (by unfold lineOk; rw [hb]; simp)]
    · (refine GQ.againN (i + 1) ?_ ?_ ?_ ?_; rotate_left; (first | omega | (dsimp only; omega)); exact (by repeat (first | exact trivial | refine ⟨rfl, ?_⟩)); exact (fun _ s => Sat.sub (by repeat (first | exact SubR.nil | apply SubR.cons 0 rfl | apply SubR.cons 1 rfl | apply SubR.cons 2 rfl | apply SubR.cons 3 rfl | apply SubR.cons 4 rfl | apply SubR.cons 5 rfl | apply SubR.cons 6 rfl | apply SubR.cons 7 rfl | apply SubR.cons 8 rfl | apply SubR.cons 9 rfl | apply SubR.cons 10 rfl | apply SubR.cons 11 rfl | apply SubR.cons 12 rfl | apply SubR.cons 13 rfl | apply SubR.cons 14 rfl | apply SubR.cons 15 rfl)) s))
      exact ⟨by omega, hu.next hq (by unfold lineOk; rw [hb]; simp; omega)⟩
  · have hall := hu.all (by omega)
    have hown1 := fun hF' => own_ok (hF := hF') hp ho hx.up
    have hown2 := fun hF' => own_ok (hF := hF') hp ho hx.down
    have hval : addsM p x.1 = ((decide (x.1.up = topV) || ownM p x.1.up) && (decide (x.1.down = botV) || ownM p x.1.down)) := by
      unfold addsM; rw [hall, hud, hne]; simp
    rw [hval]
    (repeat' (first | refine GK.ro ?_ | (refine GK.box ?_; intro bl) | (refine GK.mkMap ?_; intro bm) | (refine GK.build0 tb ?_; intro bs) | (first | refine G.condP rfl (fun hb => ?_) (fun hb => ?_) | refine G.condN rfl (fun hb => ?_) (fun hb => ?_) | refine G.cond rfl (fun hb => ?_) (fun hb => ?_)) | ((fail_if_success refine GL.fork (b := true) rfl rfl ?_ ?_); (fail_if_success refine GL.fork (b := false) rfl rfl ?_ ?_); first | refine GL.forkP rfl rfl (fun hb => ?_) (fun hb => ?_) | refine GL.forkN rfl rfl (fun hb => ?_) (fun hb => ?_) | refine GL.fork rfl rfl (fun hb => ?_) (fun hb => ?_)) | ((fail_if_success refine GL.forkPick (b := true) rfl ?_ ?_); (fail_if_success refine GL.forkPick (b := false) rfl ?_ ?_); refine GL.forkPick rfl (fun hb => ?_) (fun hb => ?_))))
    · refine GQ.fin1 rfl (Rv.tmp rfl) (fun _ s => Sat.sub (by repeat (first | exact SubR.nil | apply SubR.cons 0 rfl | apply SubR.cons 1 rfl | apply SubR.cons 2 rfl | apply SubR.cons 3 rfl | apply SubR.cons 4 rfl | apply SubR.cons 5 rfl | apply SubR.cons 6 rfl | apply SubR.cons 7 rfl | apply SubR.cons 8 rfl | apply SubR.cons 9 rfl | apply SubR.cons 10 rfl | apply SubR.cons 11 rfl | apply SubR.cons 12 rfl | apply SubR.cons 13 rfl | apply SubR.cons 14 rfl | apply SubR.cons 15 rfl)) s) ⟨?_, rfl⟩
      simp_all
    · refine GL.cons ?_; refine GO.callA (fun hF' hle hH => hown2 hF') (by first | exact Wt.none | exact Wt.some rfl rfl (by first | exact rfl | decide +kernel)) (by kernel_rfl) rfl rfl (by repeat (first | exact SubR.nil | apply SubR.cons 0 rfl | apply SubR.cons 1 rfl | apply SubR.cons 2 rfl | apply SubR.cons 3 rfl | apply SubR.cons 4 rfl | apply SubR.cons 5 rfl | apply SubR.cons 6 rfl | apply SubR.cons 7 rfl | apply SubR.cons 8 rfl | apply SubR.cons 9 rfl | apply SubR.cons 10 rfl | apply SubR.cons 11 rfl | apply SubR.cons 12 rfl | apply SubR.cons 13 rfl | apply SubR.cons 14 rfl | apply SubR.cons 15 rfl)) ?_
      rintro v Γ' ⟨rfl, rfl⟩
      (repeat' (first | refine GK.ro ?_ | (refine GK.box ?_; intro bl) | (refine GK.mkMap ?_; intro bm) | (refine GK.build0 tb ?_; intro bs) | (first | refine G.condP rfl (fun hb => ?_) (fun hb => ?_) | refine G.condN rfl (fun hb => ?_) (fun hb => ?_) | refine G.cond rfl (fun hb => ?_) (fun hb => ?_)) | ((fail_if_success refine GL.fork (b := true) rfl rfl ?_ ?_); (fail_if_success refine GL.fork (b := false) rfl rfl ?_ ?_); first | refine GL.forkP rfl rfl (fun hb => ?_) (fun hb => ?_) | refine GL.forkN rfl rfl (fun hb => ?_) (fun hb => ?_) | refine GL.fork rfl rfl (fun hb => ?_) (fun hb => ?_)) | ((fail_if_success refine GL.forkPick (b := true) rfl ?_ ?_); (fail_if_success refine GL.forkPick (b := false) rfl ?_ ?_); refine GL.forkPick rfl (fun hb => ?_) (fun hb => ?_))))
      all_goals (refine GQ.fin1 rfl (Rv.tmp rfl) (fun _ s => Sat.sub (by repeat (first | exact SubR.nil | apply SubR.cons 0 rfl | apply SubR.cons 1 rfl | apply SubR.cons 2 rfl | apply SubR.cons 3 rfl | apply SubR.cons 4 rfl | apply SubR.cons 5 rfl | apply SubR.cons 6 rfl | apply SubR.cons 7 rfl | apply SubR.cons 8 rfl | apply SubR.cons 9 rfl | apply SubR.cons 10 rfl | apply SubR.cons 11 rfl | apply SubR.cons 12 rfl | apply SubR.cons 13 rfl | apply SubR.cons 14 rfl | apply SubR.cons 15 rfl)) s) ⟨?_, rfl⟩; simp_all)
    · refine GL.cons ?_; refine GO.callA (fun hF' hle hH => hown1 hF') (by first | exact Wt.none | exact Wt.some rfl rfl (by first | exact rfl | decide +kernel)) (by kernel_rfl) rfl rfl (by repeat (first | exact SubR.nil | apply SubR.cons 0 rfl | apply SubR.cons 1 rfl | apply SubR.cons 2 rfl | apply SubR.cons 3 rfl | apply SubR.cons 4 rfl | apply SubR.cons 5 rfl | apply SubR.cons 6 rfl | apply SubR.cons 7 rfl | apply SubR.cons 8 rfl | apply SubR.cons 9 rfl | apply SubR.cons 10 rfl | apply SubR.cons 11 rfl | apply SubR.cons 12 rfl | apply SubR.cons 13 rfl | apply SubR.cons 14 rfl | apply SubR.cons 15 rfl)) ?_
      rintro v Γ' ⟨rfl, rfl⟩
      (repeat' (first | refine GK.ro ?_ | (refine GK.box ?_; intro bl) | (refine GK.mkMap ?_; intro bm) | (refine GK.build0 tb ?_; intro bs) | (first | refine G.condP rfl (fun hb => ?_) (fun hb => ?_) | refine G.condN rfl (fun hb => ?_) (fun hb => ?_) | refine G.cond rfl (fun hb => ?_) (fun hb => ?_)) | ((fail_if_success refine GL.fork (b := true) rfl rfl ?_ ?_); (fail_if_success refine GL.fork (b := false) rfl rfl ?_ ?_); first | refine GL.forkP rfl rfl (fun hb => ?_) (fun hb => ?_) | refine GL.forkN rfl rfl (fun hb => ?_) (fun hb => ?_) | refine GL.fork rfl rfl (fun hb => ?_) (fun hb => ?_)) | ((fail_if_success refine GL.forkPick (b := true) rfl ?_ ?_); (fail_if_success refine GL.forkPick (b := false) rfl ?_ ?_); refine GL.forkPick rfl (fun hb => ?_) (fun hb => ?_))))
      · refine GQ.fin1 rfl (Rv.tmp rfl) (fun _ s => Sat.sub (by repeat (first | exact SubR.nil | apply SubR.cons 0 rfl | apply SubR.cons 1 rfl | apply SubR.cons 2 rfl | apply SubR.cons 3 rfl | apply SubR.cons 4 rfl | apply SubR.cons 5 rfl | apply SubR.cons 6 rfl | apply SubR.cons 7 rfl | apply SubR.cons 8 rfl | apply SubR.cons 9 rfl | apply SubR.cons 10 rfl | apply SubR.cons 11 rfl | apply SubR.cons 12 rfl | apply SubR.cons 13 rfl | apply SubR.cons 14 rfl | apply SubR.cons 15 rfl)) s) ⟨?_, rfl⟩; simp_all
      · refine GL.cons ?_; refine GO.callA (fun hF' hle hH => hown2 hF') (by first | exact Wt.none | exact Wt.some rfl rfl (by first | exact rfl | decide +kernel)) (by kernel_rfl) rfl rfl (by repeat (first | exact SubR.nil | apply SubR.cons 0 rfl | apply SubR.cons 1 rfl | apply SubR.cons 2 rfl | apply SubR.cons 3 rfl | apply SubR.cons 4 rfl | apply SubR.cons 5 rfl | apply SubR.cons 6 rfl | apply SubR.cons 7 rfl | apply SubR.cons 8 rfl | apply SubR.cons 9 rfl | apply SubR.cons 10 rfl | apply SubR.cons 11 rfl | apply SubR.cons 12 rfl | apply SubR.cons 13 rfl | apply SubR.cons 14 rfl | apply SubR.cons 15 rfl)) ?_
        rintro v Γ' ⟨rfl, rfl⟩
        (repeat' (first | refine GK.ro ?_ | (refine GK.box ?_; intro bl) | (refine GK.mkMap ?_; intro bm) | (refine GK.build0 tb ?_; intro bs) | (first | refine G.condP rfl (fun hb => ?_) (fun hb => ?_) | refine G.condN rfl (fun hb => ?_) (fun hb => ?_) | refine G.cond rfl (fun hb => ?_) (fun hb => ?_)) | ((fail_if_success refine GL.fork (b := true) rfl rfl ?_ ?_); (fail_if_success refine GL.fork (b := false) rfl rfl ?_ ?_); first | refine GL.forkP rfl rfl (fun hb => ?_) (fun hb => ?_) | refine GL.forkN rfl rfl (fun hb => ?_) (fun hb => ?_) | refine GL.fork rfl rfl (fun hb => ?_) (fun hb => ?_)) | ((fail_if_success refine GL.forkPick (b := true) rfl ?_ ?_); (fail_if_success refine GL.forkPick (b := false) rfl ?_ ?_); refine GL.forkPick rfl (fun hb => ?_) (fun hb => ?_))))
        all_goals (refine GQ.fin1 rfl (Rv.tmp rfl) (fun _ s => Sat.sub (by repeat (first | exact SubR.nil | apply SubR.cons 0 rfl | apply SubR.cons 1 rfl | apply SubR.cons 2 rfl | apply SubR.cons 3 rfl | apply SubR.cons 4 rfl | apply SubR.cons 5 rfl | apply SubR.cons 6 rfl | apply SubR.cons 7 rfl | apply SubR.cons 8 rfl | apply SubR.cons 9 rfl | apply SubR.cons 10 rfl | apply SubR.cons 11 rfl | apply SubR.cons 12 rfl | apply SubR.cons 13 rfl | apply SubR.cons 14 rfl | apply SubR.cons 15 rfl)) s) ⟨?_, rfl⟩; simp_all)
      · refine GQ.fin1 rfl (Rv.tmp rfl) (fun _ s => Sat.sub (by repeat (first | exact SubR.nil | apply SubR.cons 0 rfl | apply SubR.cons 1 rfl | apply SubR.cons 2 rfl | apply SubR.cons 3 rfl | apply SubR.cons 4 rfl | apply SubR.cons 5 rfl | apply SubR.cons 6 rfl | apply SubR.cons 7 rfl | apply SubR.cons 8 rfl | apply SubR.cons 9 rfl | apply SubR.cons 10 rfl | apply SubR.cons 11 rfl | apply SubR.cons 12 rfl | apply SubR.cons 13 rfl | apply SubR.cons 14 rfl | apply SubR.cons 15 rfl)) s) ⟨?_, rfl⟩; simp_all
theorem op_ok {p : Pch} {dv ov : Value} (hp : PaAt H p dv ov) (ho : p.Ok) (hb0 : Bot H) {x : Op1 × Value} (hx : x.1.Ok) (hl : rs H x.2 x.1.lines.length 1 (strs x.1.lines)) :
    FnOk Go.Proofs.Tryd.prog 48 [.agg ⟨paC p dv ov⟩, .agg ⟨opC x⟩] [poolOf H] hF (fun r Γ => r = .bool (opM p x.1) ∧ Γ = [poolOf H]) := by
  have hadds := fun hF' => adds_ok (hF := hF') hp ho hb0 hx hl
  have hown1 := fun hF' => own_ok (hF := hF') hp ho hx.up
  obtain ⟨lp, lc, hlv, hlc, hll, hlr⟩ := rs.out hl
  have c1 : (opC x)[0 + 68]? = some (.slice lp x.1.lines.length lc) := by rw [← hlv]; exact opC_lines hx
  have c2 : At (opC x) (0 + 2) (vxC x.1.up) := opC_up x
  have c3 : At (opC x) (0 + 35) (vxC x.1.down) := opC_down hx
  have c4 : (opC x)[0 + 0]? = some (.int .i64 x.1.kind) := by unfold opC; rfl
  have c5 : (opC x)[0 + 1]? = some (str x.1.path) := by unfold opC; rfl
  have c6 : At (opC x) 0 (opC x) := At.all _
  have z6 := opC_len hx
  have z1 := vxC_len hx.up
  have z2 := vxC_len hx.down
  have e2 := eq_top hx.down
  refine FnOk.intro 37 Go.Proofs.Tryd.func48 rfl rfl fun w0 => ?_
  (repeat (first | refine GK.ro ?_ | (refine GK.box ?_; intro bl) | (refine GK.mkMap ?_; intro bm) | (refine GK.build0 tb ?_; intro bs)))
  refine GL.cons ?_; refine GO.callA (fun hF' hle hH => path_ok x.1.path (by have := hx.path; omega)) (by first | exact Wt.none | exact Wt.some rfl rfl (by first | exact rfl | decide +kernel)) (by kernel_rfl) rfl rfl (by repeat (first | exact SubR.nil | apply SubR.cons 0 rfl | apply SubR.cons 1 rfl | apply SubR.cons 2 rfl | apply SubR.cons 3 rfl | apply SubR.cons 4 rfl | apply SubR.cons 5 rfl | apply SubR.cons 6 rfl | apply SubR.cons 7 rfl | apply SubR.cons 8 rfl | apply SubR.cons 9 rfl | apply SubR.cons 10 rfl | apply SubR.cons 11 rfl | apply SubR.cons 12 rfl | apply SubR.cons 13 rfl | apply SubR.cons 14 rfl | apply SubR.cons 15 rfl)) ?_
  rintro v Γ' ⟨rfl, rfl⟩
  (repeat' (first | refine GK.ro ?_ | (refine GK.box ?_; intro bl) | (refine GK.mkMap ?_; intro bm) | (refine GK.build0 tb ?_; intro bs) | (first | refine G.condP rfl (fun hb => ?_) (fun hb => ?_) | refine G.condN rfl (fun hb => ?_) (fun hb => ?_) | refine G.cond rfl (fun hb => ?_) (fun hb => ?_)) | ((fail_if_success refine GL.fork (b := true) rfl rfl ?_ ?_); (fail_if_success refine GL.fork (b := false) rfl rfl ?_ ?_); first | refine GL.forkP rfl rfl (fun hb => ?_) (fun hb => ?_) | refine GL.forkN rfl rfl (fun hb => ?_) (fun hb => ?_) | refine GL.fork rfl rfl (fun hb => ?_) (fun hb => ?_)) | ((fail_if_success refine GL.forkPick (b := true) rfl ?_ ?_); (fail_if_success refine GL.forkPick (b := false) rfl ?_ ?_); refine GL.forkPick rfl (fun hb => ?_) (fun hb => ?_))))
  · refine GQ.fin1 rfl (Rv.tmp rfl) (fun _ s => Sat.sub (by repeat (first | exact SubR.nil | apply SubR.cons 0 rfl | apply SubR.cons 1 rfl | apply SubR.cons 2 rfl | apply SubR.cons 3 rfl | apply SubR.cons 4 rfl | apply SubR.cons 5 rfl | apply SubR.cons 6 rfl | apply SubR.cons 7 rfl | apply SubR.cons 8 rfl | apply SubR.cons 9 rfl | apply SubR.cons 10 rfl | apply SubR.cons 11 rfl | apply SubR.cons 12 rfl | apply SubR.cons 13 rfl | apply SubR.cons 14 rfl | apply SubR.cons 15 rfl)) s) ⟨?_, rfl⟩
    unfold opM; simp_all
  · refine GL.cons ?_; refine GO.callA (fun hF' hle hH => hadds hF') (by first | exact Wt.none | exact Wt.some rfl rfl (by first | exact rfl | decide +kernel)) (by kernel_rfl) rfl rfl (by repeat (first | exact SubR.nil | apply SubR.cons 0 rfl | apply SubR.cons 1 rfl | apply SubR.cons 2 rfl | apply SubR.cons 3 rfl | apply SubR.cons 4 rfl | apply SubR.cons 5 rfl | apply SubR.cons 6 rfl | apply SubR.cons 7 rfl | apply SubR.cons 8 rfl | apply SubR.cons 9 rfl | apply SubR.cons 10 rfl | apply SubR.cons 11 rfl | apply SubR.cons 12 rfl | apply SubR.cons 13 rfl | apply SubR.cons 14 rfl | apply SubR.cons 15 rfl)) ?_
    rintro v Γ' ⟨rfl, rfl⟩
    (repeat' (first | refine GK.ro ?_ | (refine GK.box ?_; intro bl) | (refine GK.mkMap ?_; intro bm) | (refine GK.build0 tb ?_; intro bs) | (first | refine G.condP rfl (fun hb => ?_) (fun hb => ?_) | refine G.condN rfl (fun hb => ?_) (fun hb => ?_) | refine G.cond rfl (fun hb => ?_) (fun hb => ?_)) | ((fail_if_success refine GL.fork (b := true) rfl rfl ?_ ?_); (fail_if_success refine GL.fork (b := false) rfl rfl ?_ ?_); first | refine GL.forkP rfl rfl (fun hb => ?_) (fun hb => ?_) | refine GL.forkN rfl rfl (fun hb => ?_) (fun hb => ?_) | refine GL.fork rfl rfl (fun hb => ?_) (fun hb => ?_)) | ((fail_if_success refine GL.forkPick (b := true) rfl ?_ ?_); (fail_if_success refine GL.forkPick (b := false) rfl ?_ ?_); refine GL.forkPick rfl (fun hb => ?_) (fun hb => ?_))))
    refine GQ.fin1 rfl (Rv.tmp rfl) (fun _ s => Sat.sub (by repeat (first | exact SubR.nil | apply SubR.cons 0 rfl | apply SubR.cons 1 rfl | apply SubR.cons 2 rfl | apply SubR.cons 3 rfl | apply SubR.cons 4 rfl | apply SubR.cons 5 rfl | apply SubR.cons 6 rfl | apply SubR.cons 7 rfl | apply SubR.cons 8 rfl | apply SubR.cons 9 rfl | apply SubR.cons 10 rfl | apply SubR.cons 11 rfl | apply SubR.cons 12 rfl | apply SubR.cons 13 rfl | apply SubR.cons 14 rfl | apply SubR.cons 15 rfl)) s) ⟨?_, rfl⟩
    unfold opM; simp_all
  · refine GL.cons ?_; refine GO.callA (fun hF' hle hH => hown1 hF') (by first | exact Wt.none | exact Wt.some rfl rfl (by first | exact rfl | decide +kernel)) (by kernel_rfl) rfl rfl (by repeat (first | exact SubR.nil | apply SubR.cons 0 rfl | apply SubR.cons 1 rfl | apply SubR.cons 2 rfl | apply SubR.cons 3 rfl | apply SubR.cons 4 rfl | apply SubR.cons 5 rfl | apply SubR.cons 6 rfl | apply SubR.cons 7 rfl | apply SubR.cons 8 rfl | apply SubR.cons 9 rfl | apply SubR.cons 10 rfl | apply SubR.cons 11 rfl | apply SubR.cons 12 rfl | apply SubR.cons 13 rfl | apply SubR.cons 14 rfl | apply SubR.cons 15 rfl)) ?_
    rintro v Γ' ⟨rfl, rfl⟩
    (repeat' (first | refine GK.ro ?_ | (refine GK.box ?_; intro bl) | (refine GK.mkMap ?_; intro bm) | (refine GK.build0 tb ?_; intro bs) | (first | refine G.condP rfl (fun hb => ?_) (fun hb => ?_) | refine G.condN rfl (fun hb => ?_) (fun hb => ?_) | refine G.cond rfl (fun hb => ?_) (fun hb => ?_)) | ((fail_if_success refine GL.fork (b := true) rfl rfl ?_ ?_); (fail_if_success refine GL.fork (b := false) rfl rfl ?_ ?_); first | refine GL.forkP rfl rfl (fun hb => ?_) (fun hb => ?_) | refine GL.forkN rfl rfl (fun hb => ?_) (fun hb => ?_) | refine GL.fork rfl rfl (fun hb => ?_) (fun hb => ?_)) | ((fail_if_success refine GL.forkPick (b := true) rfl ?_ ?_); (fail_if_success refine GL.forkPick (b := false) rfl ?_ ?_); refine GL.forkPick rfl (fun hb => ?_) (fun hb => ?_))))
    all_goals (refine GQ.fin1 rfl (Rv.tmp rfl) (fun _ s => Sat.sub (by repeat (first | exact SubR.nil | apply SubR.cons 0 rfl | apply SubR.cons 1 rfl | apply SubR.cons 2 rfl | apply SubR.cons 3 rfl | apply SubR.cons 4 rfl | apply SubR.cons 5 rfl | apply SubR.cons 6 rfl | apply SubR.cons 7 rfl | apply SubR.cons 8 rfl | apply SubR.cons 9 rfl | apply SubR.cons 10 rfl | apply SubR.cons 11 rfl | apply SubR.cons 12 rfl | apply SubR.cons 13 rfl | apply SubR.cons 14 rfl | apply SubR.cons 15 rfl)) s) ⟨?_, rfl⟩; unfold opM killsM; first | (simp_all; done) | (cases hq : x.1.lines <;> simp_all <;> omega))
  · refine GQ.fin1 rfl (Rv.tmp rfl) (fun _ s => Sat.sub (by repeat (first | exact SubR.nil | apply SubR.cons 0 rfl | apply SubR.cons 1 rfl | apply SubR.cons 2 rfl | apply SubR.cons 3 rfl | apply SubR.cons 4 rfl | apply SubR.cons 5 rfl | apply SubR.cons 6 rfl | apply SubR.cons 7 rfl | apply SubR.cons 8 rfl | apply SubR.cons 9 rfl | apply SubR.cons 10 rfl | apply SubR.cons 11 rfl | apply SubR.cons 12 rfl | apply SubR.cons 13 rfl | apply SubR.cons 14 rfl | apply SubR.cons 15 rfl)) s) ⟨?_, rfl⟩
    unfold opM; simp_all
end Go.Pb
