/- A patch's bytes, as plain data; a vertex put behind bytes. -/
import Derived.Test.YtbbfhchceimflaaDoorPbD
set_option linter.unusedSimpArgs false
set_option linter.unusedVariables false
namespace Go.Pb
open Go Go.Sl Go.Lb Go.Pa Go.Oc
def tx (s : By) : By := uv s.length ++ s
def vxB (p : Pch) (v : Vx) : By := if v = topV then [0] else if v = botV then [1] else 2 :: (uv (placeI p.deps v.h).toNat ++ uv v.line.toNat)
def opB (p : Pch) (o : Op1) : By := UInt8.ofNat o.kind.toNat :: (tx o.path ++ (vxB p o.up ++ if o.kind = 2 then [] else vxB p o.down ++ (uv o.lines.length ++ o.lines.flatMap tx)))
def bytesM (p : Pch) : By := 80 :: (tx p.author ++ (uv p.time.toNat ++ (tx p.note ++ (uv p.deps.length ++ (p.deps.flatten ++ (uv p.ops.length ++ p.ops.flatMap (opB p)))))))
/-- What Check has looked at. -/
structure Op1.Good (p : Pch) (o : Op1) : Prop where
  path : o.path.length ≤ 64
  kind : o.kind = 1 ∨ o.kind = 2
  up : o.up = topV ∨ ownM p o.up = true
  down : o.kind = 1 → o.down = botV ∨ ownM p o.down = true
  kill : o.kind = 2 → o.down = topV ∧ o.lines = [] ∧ ownM p o.up = true
  add : o.kind = 1 → o.lines ≠ [] ∧ o.up ≠ o.down
  lines : o.lines.length ≤ 64
  line : ∀ s ∈ o.lines, lineOk s = true
structure Pch.Good (p : Pch) : Prop where
  author : nameM p.author = true
  time : 0 ≤ p.time ∧ p.time ≤ 1099511627776
  note : p.note.length ≤ 200
  deps : p.deps.length ≤ 16
  rises : risesM zeroH p.deps = true
  ops : 0 < p.ops.length ∧ p.ops.length ≤ 16
  op : ∀ o ∈ p.ops, o.Good p
  lines : linesN p.ops ≤ 64
theorem linesN_mem {l : List Op1} {o : Op1} (h : o ∈ l) : o.lines.length ≤ linesN l := by
  induction l with
  | nil => cases h
  | cons a l ih =>
    unfold linesN at *
    rcases List.mem_cons.1 h with rfl | h
    · simp
    · have := ih h; simp; omega
theorem good_of {p : Pch} (h : checkM p = 0) : p.Good := by
  unfold checkM at h
  split at h; · cases h
  rename_i h1
  split at h; · cases h
  rename_i h2
  split at h; · cases h
  rename_i h3
  split at h; · cases h
  rename_i h4
  split at h; · cases h
  rename_i h5
  have h1 : headM2 p = true := by simpa using h1
  have h2 : depsM p.deps = true := by simpa using h2
  have h4 : p.ops.all (opM p) = true := by simpa using h4
  unfold headM2 at h1
  unfold depsM at h2
  simp only [Bool.and_eq_true, decide_eq_true_eq] at h1 h2
  refine ⟨h1.1, ⟨h1.2.1, h1.2.2.1⟩, h1.2.2.2, h2.1, h2.2, by omega, fun o ho => ?_, by omega⟩
  have hm := List.all_eq_true.1 h4 o ho
  have hl := linesN_mem ho
  unfold opM at hm
  simp only [Bool.and_eq_true] at hm
  obtain ⟨hpath, hm⟩ := hm
  have hp64 : o.path.length ≤ 64 := by unfold pathM at hpath; simp at hpath; exact hpath.1
  by_cases k1 : o.kind = 1
  · rw [if_pos k1] at hm
    unfold addsM at hm
    simp only [Bool.and_eq_true, Bool.or_eq_true, Bool.not_eq_true', decide_eq_true_eq, decide_eq_false_iff_not, beq_eq_false_iff_ne] at hm
    obtain ⟨⟨⟨⟨a1, a2⟩, a3⟩, a4⟩, a5⟩ := hm
    exact ⟨hp64, .inl k1, a4, fun _ => a5, fun k => by omega, fun _ => ⟨a1, a2⟩, by omega, List.all_eq_true.1 a3⟩
  · rw [if_neg k1] at hm
    by_cases k2 : o.kind = 2
    · rw [if_pos k2] at hm
      unfold killsM at hm
      simp only [Bool.and_eq_true, decide_eq_true_eq, beq_iff_eq] at hm
      obtain ⟨⟨a1, a2⟩, a3⟩ := hm
      exact ⟨hp64, .inr k2, .inr a1, fun k => by omega, fun _ => ⟨a2, a3, a1⟩, fun k => by omega, by omega, fun s hs => by rw [a3] at hs; cases hs⟩
    · rw [if_neg k2] at hm; cases hm
theorem own_parts {p : Pch} {v : Vx} (h : ownM p v = true) : (∃ k : Nat, placeI p.deps v.h = k ∧ k < p.deps.length) ∧ ∃ n : Nat, v.line = n ∧ n < 64 := by
  unfold ownM at h
  simp only [Bool.and_eq_true, decide_eq_true_eq] at h
  obtain ⟨h1, h2, h3⟩ := h
  rw [← placeI_mem] at h3
  have h3 := of_decide_eq_true h3
  have := placeI_bound p.deps v.h
  exact ⟨⟨(placeI p.deps v.h).toNat, by omega, by omega⟩, ⟨v.line.toNat, by omega, by omega⟩⟩
theorem tx_len {s : By} (h : s.length ≤ 1000000000) : (tx s).length ≤ 10 + s.length := by
  have := uv_len10 (n := s.length) (by omega)
  unfold tx; simp; omega
theorem vxB_len {p : Pch} {v : Vx} (hv : v = topV ∨ v = botV ∨ ownM p v = true) (hd : p.deps.length ≤ 1000000) : (vxB p v).length ≤ 21 := by
  unfold vxB
  split
  · simp
  split
  · simp
  rename_i h1 h2
  obtain ⟨⟨k, hk, hk2⟩, n, hn, hn2⟩ := own_parts ((hv.resolve_left h1).resolve_left h2)
  rw [hk, hn]
  have q1 := uv_len10 (n := (k : Int).toNat) (by omega)
  have q2 := uv_len10 (n := (n : Int).toNat) (by omega)
  simp only [List.length_cons, List.length_append]; omega
theorem Sat.blk_brow {b : Nat} {l : By} {Γ : List HProp} {hF : Hp} {w : World} (h : Sat (blk b 5 (0, 0) (u8s l) :: Γ) hF w) : Sat (brow (.slice (some ⟨b, 0, none⟩) l.length l.length) l :: Γ) hF w := by
  refine Sat.row_blk (tail := []) (Nat.le_refl _) (by simp) (by rw [u8s_len]; simp) free_zero ?_
  rw [List.append_nil]; exact h
theorem brow_grow {q : Option Addr} {c : Nat} {l : By} {b : UInt8} : row (.slice q (l.length + 1) c) 5 1 (l.length + 1) (u8s l ++ [.int .u8 b.toNat]) = brow (.slice q (l ++ [b]).length c) (l ++ [b]) := by
  rw [← u8s_one', List.length_append]; exact brow_app (by simp)
set_option maxRecDepth 100000
set_option maxHeartbeats 4000000
attribute [local irreducible] GK GO Yl Wt Ef Hd GH KH wpListIn Code.wpIn toBody roundQ poolOf rs RS YieldOk IterOk VOk row star exs mp lp Sat pt FnOk Rd bodyPost bodyPostM Lv Ret Exit.then Exit.inBlock Exit.noGoto Int.decLt Int.decLe Int.instDecidableEq
attribute [local irreducible] u8s hs strs vxC opC placeI pathM nameM ownM lineOk topV botV addsM killsM opM depsM risesM headM2 linesN zeroH tx vxB opB bytesM
set_option pp.deepTerms true
set_option pp.maxSteps 1000000
variable {hF H : Hp}
theorem vertex_ok {p : Pch} {dv ov : Value} (hp : PaAt H p dv ov) (ho : p.Ok) (hb0 : Bot H) {v : Vx} (hv : v.Ok) (hg : v = topV ∨ v = botV ∨ ownM p v = true) {q : Option Addr} {c : Nat} {l : By} (hl : l.length ≤ 10000000) :
    FnOk Go.Proofs.Tryd.prog 33 [.slice q l.length c, .agg ⟨paC p dv ov⟩, .agg ⟨vxC v⟩] [brow (.slice q l.length c) l, poolOf H] hF (fun r Γ => ∃ q c, r = .slice q (l ++ vxB p v).length c ∧ Γ = [brow r (l ++ vxB p v), poolOf H]) := by
  obtain ⟨eb, fzb, hbot⟩ := hb0
  have z3 := vxC_len botV_ok
  have z0 : At (vxC botV) 0 (vxC botV) := At.all _
  have z4 := vxC_len hv
  have z5 : At (vxC v) 0 (vxC v) := At.all _
  have e2 := eq_top hv
  have e3 := eq_vx hv botV_ok
  have h1' : (vxC v)[0 + 32]? = some (.int .i64 v.line) := vxC_line hv
  refine FnOk.intro 36 Go.Proofs.Tryd.func33 rfl rfl fun w0 => ?_
  (repeat' (first | refine GK.ro ?_ | (refine GK.box ?_; intro bl) | (refine GK.mkMap ?_; intro bm) | (refine GK.build0 tb ?_; intro bs) | (first | refine G.condP rfl (fun hb => ?_) (fun hb => ?_) | refine G.condN rfl (fun hb => ?_) (fun hb => ?_) | refine G.cond rfl (fun hb => ?_) (fun hb => ?_)) | ((fail_if_success refine GL.fork (b := true) rfl rfl ?_ ?_); (fail_if_success refine GL.fork (b := false) rfl rfl ?_ ?_); first | refine GL.forkP rfl rfl (fun hb => ?_) (fun hb => ?_) | refine GL.forkN rfl rfl (fun hb => ?_) (fun hb => ?_) | refine GL.fork rfl rfl (fun hb => ?_) (fun hb => ?_)) | ((fail_if_success refine GL.forkPick (b := true) rfl ?_ ?_); (fail_if_success refine GL.forkPick (b := false) rfl ?_ ?_); refine GL.forkPick rfl (fun hb => ?_) (fun hb => ?_))))
  · refine GL.cons ?_; refine Gt.buildLit tb (sz := 0) (n := 0) (by first | exact Wt.none | exact Wt.some rfl rfl (by first | exact rfl | decide +kernel)) rfl rfl (by kernel_rfl) rfl rfl rfl rfl rfl rfl ?_; intro bx; refine GL.cons ?_; (first | refine Gt.append tb 1 (by first | exact Wt.none | exact Wt.some rfl rfl (by first | exact rfl | decide +kernel)) rfl (.inl ⟨_, rfl⟩) rfl rfl rfl rfl rfl (Src.slice (m := 1) (Rd.blk 0 rfl) (At.all _) rfl (one_of_all rfl)) (by omega) (by omega) ?_ | refine Gt.append tb 2 (by first | exact Wt.none | exact Wt.some rfl rfl (by first | exact rfl | decide +kernel)) rfl (.inl ⟨_, rfl⟩) rfl rfl rfl rfl rfl (Src.slice (m := 1) (Rd.blk 0 rfl) (At.all _) rfl (one_of_all rfl)) (by omega) (by omega) ?_ | refine Gt.append tb 3 (by first | exact Wt.none | exact Wt.some rfl rfl (by first | exact rfl | decide +kernel)) rfl (.inl ⟨_, rfl⟩) rfl rfl rfl rfl rfl (Src.slice (m := 1) (Rd.blk 0 rfl) (At.all _) rfl (one_of_all rfl)) (by omega) (by omega) ?_ | refine Gt.append tb 4 (by first | exact Wt.none | exact Wt.some rfl rfl (by first | exact rfl | decide +kernel)) rfl (.inl ⟨_, rfl⟩) rfl rfl rfl rfl rfl (Src.slice (m := 1) (Rd.blk 0 rfl) (At.all _) rfl (one_of_all rfl)) (by omega) (by omega) ?_ | refine Gt.append tb 5 (by first | exact Wt.none | exact Wt.some rfl rfl (by first | exact rfl | decide +kernel)) rfl (.inl ⟨_, rfl⟩) rfl rfl rfl rfl rfl (Src.slice (m := 1) (Rd.blk 0 rfl) (At.all _) rfl (one_of_all rfl)) (by omega) (by omega) ?_ | refine Gt.append tb 6 (by first | exact Wt.none | exact Wt.some rfl rfl (by first | exact rfl | decide +kernel)) rfl (.inl ⟨_, rfl⟩) rfl rfl rfl rfl rfl (Src.slice (m := 1) (Rd.blk 0 rfl) (At.all _) rfl (one_of_all rfl)) (by omega) (by omega) ?_ | refine Gt.append tb 7 (by first | exact Wt.none | exact Wt.some rfl rfl (by first | exact rfl | decide +kernel)) rfl (.inl ⟨_, rfl⟩) rfl rfl rfl rfl rfl (Src.slice (m := 1) (Rd.blk 0 rfl) (At.all _) rfl (one_of_all rfl)) (by omega) (by omega) ?_ | refine Gt.append tb 8 (by first | exact Wt.none | exact Wt.some rfl rfl (by first | exact rfl | decide +kernel)) rfl (.inl ⟨_, rfl⟩) rfl rfl rfl rfl rfl (Src.slice (m := 1) (Rd.blk 0 rfl) (At.all _) rfl (one_of_all rfl)) (by omega) (by omega) ?_ | refine Gt.append tb 9 (by first | exact Wt.none | exact Wt.some rfl rfl (by first | exact rfl | decide +kernel)) rfl (.inl ⟨_, rfl⟩) rfl rfl rfl rfl rfl (Src.slice (m := 1) (Rd.blk 0 rfl) (At.all _) rfl (one_of_all rfl)) (by omega) (by omega) ?_ | refine Gt.append tb 10 (by first | exact Wt.none | exact Wt.some rfl rfl (by first | exact rfl | decide +kernel)) rfl (.inl ⟨_, rfl⟩) rfl rfl rfl rfl rfl (Src.slice (m := 1) (Rd.blk 0 rfl) (At.all _) rfl (one_of_all rfl)) (by omega) (by omega) ?_ | refine Gt.append tb 11 (by first | exact Wt.none | exact Wt.some rfl rfl (by first | exact rfl | decide +kernel)) rfl (.inl ⟨_, rfl⟩) rfl rfl rfl rfl rfl (Src.slice (m := 1) (Rd.blk 0 rfl) (At.all _) rfl (one_of_all rfl)) (by omega) (by omega) ?_ | refine Gt.append tb 12 (by first | exact Wt.none | exact Wt.some rfl rfl (by first | exact rfl | decide +kernel)) rfl (.inl ⟨_, rfl⟩) rfl rfl rfl rfl rfl (Src.slice (m := 1) (Rd.blk 0 rfl) (At.all _) rfl (one_of_all rfl)) (by omega) (by omega) ?_)
    intro p2 c2
    (repeat (first | refine GK.ro ?_ | (refine GK.box ?_; intro bl) | (refine GK.mkMap ?_; intro bm) | (refine GK.build0 tb ?_; intro bs)))
    have e : vxB p v = [0] := by unfold vxB; rw [if_pos hb]
    rw [e]
    exact GQ.fin1 (Γ' := [brow (.slice p2 (l ++ [0]).length c2) (l ++ [0]), poolOf H]) rfl (Rv.tmp rfl) (fun w s => by rw [← brow_grow]; exact Sat.sub (by repeat (first | exact SubR.nil | apply SubR.cons 0 rfl | apply SubR.cons 1 rfl | apply SubR.cons 2 rfl | apply SubR.cons 3 rfl | apply SubR.cons 4 rfl | apply SubR.cons 5 rfl | apply SubR.cons 6 rfl | apply SubR.cons 7 rfl | apply SubR.cons 8 rfl | apply SubR.cons 9 rfl | apply SubR.cons 10 rfl | apply SubR.cons 11 rfl | apply SubR.cons 12 rfl | apply SubR.cons 13 rfl | apply SubR.cons 14 rfl | apply SubR.cons 15 rfl)) s) ⟨p2, c2, by rw [List.length_append]; rfl, by rw [List.length_append]; rfl⟩
  · rename_i hb1
    refine GL.cons ?_; refine Gt.buildLit tb (sz := 0) (n := 0) (by first | exact Wt.none | exact Wt.some rfl rfl (by first | exact rfl | decide +kernel)) rfl rfl (by kernel_rfl) rfl rfl rfl rfl rfl rfl ?_; intro bx; refine GL.cons ?_; (first | refine Gt.append tb 1 (by first | exact Wt.none | exact Wt.some rfl rfl (by first | exact rfl | decide +kernel)) rfl (.inl ⟨_, rfl⟩) rfl rfl rfl rfl rfl (Src.slice (m := 1) (Rd.blk 0 rfl) (At.all _) rfl (one_of_all rfl)) (by omega) (by omega) ?_ | refine Gt.append tb 2 (by first | exact Wt.none | exact Wt.some rfl rfl (by first | exact rfl | decide +kernel)) rfl (.inl ⟨_, rfl⟩) rfl rfl rfl rfl rfl (Src.slice (m := 1) (Rd.blk 0 rfl) (At.all _) rfl (one_of_all rfl)) (by omega) (by omega) ?_ | refine Gt.append tb 3 (by first | exact Wt.none | exact Wt.some rfl rfl (by first | exact rfl | decide +kernel)) rfl (.inl ⟨_, rfl⟩) rfl rfl rfl rfl rfl (Src.slice (m := 1) (Rd.blk 0 rfl) (At.all _) rfl (one_of_all rfl)) (by omega) (by omega) ?_ | refine Gt.append tb 4 (by first | exact Wt.none | exact Wt.some rfl rfl (by first | exact rfl | decide +kernel)) rfl (.inl ⟨_, rfl⟩) rfl rfl rfl rfl rfl (Src.slice (m := 1) (Rd.blk 0 rfl) (At.all _) rfl (one_of_all rfl)) (by omega) (by omega) ?_ | refine Gt.append tb 5 (by first | exact Wt.none | exact Wt.some rfl rfl (by first | exact rfl | decide +kernel)) rfl (.inl ⟨_, rfl⟩) rfl rfl rfl rfl rfl (Src.slice (m := 1) (Rd.blk 0 rfl) (At.all _) rfl (one_of_all rfl)) (by omega) (by omega) ?_ | refine Gt.append tb 6 (by first | exact Wt.none | exact Wt.some rfl rfl (by first | exact rfl | decide +kernel)) rfl (.inl ⟨_, rfl⟩) rfl rfl rfl rfl rfl (Src.slice (m := 1) (Rd.blk 0 rfl) (At.all _) rfl (one_of_all rfl)) (by omega) (by omega) ?_ | refine Gt.append tb 7 (by first | exact Wt.none | exact Wt.some rfl rfl (by first | exact rfl | decide +kernel)) rfl (.inl ⟨_, rfl⟩) rfl rfl rfl rfl rfl (Src.slice (m := 1) (Rd.blk 0 rfl) (At.all _) rfl (one_of_all rfl)) (by omega) (by omega) ?_ | refine Gt.append tb 8 (by first | exact Wt.none | exact Wt.some rfl rfl (by first | exact rfl | decide +kernel)) rfl (.inl ⟨_, rfl⟩) rfl rfl rfl rfl rfl (Src.slice (m := 1) (Rd.blk 0 rfl) (At.all _) rfl (one_of_all rfl)) (by omega) (by omega) ?_ | refine Gt.append tb 9 (by first | exact Wt.none | exact Wt.some rfl rfl (by first | exact rfl | decide +kernel)) rfl (.inl ⟨_, rfl⟩) rfl rfl rfl rfl rfl (Src.slice (m := 1) (Rd.blk 0 rfl) (At.all _) rfl (one_of_all rfl)) (by omega) (by omega) ?_ | refine Gt.append tb 10 (by first | exact Wt.none | exact Wt.some rfl rfl (by first | exact rfl | decide +kernel)) rfl (.inl ⟨_, rfl⟩) rfl rfl rfl rfl rfl (Src.slice (m := 1) (Rd.blk 0 rfl) (At.all _) rfl (one_of_all rfl)) (by omega) (by omega) ?_ | refine Gt.append tb 11 (by first | exact Wt.none | exact Wt.some rfl rfl (by first | exact rfl | decide +kernel)) rfl (.inl ⟨_, rfl⟩) rfl rfl rfl rfl rfl (Src.slice (m := 1) (Rd.blk 0 rfl) (At.all _) rfl (one_of_all rfl)) (by omega) (by omega) ?_ | refine Gt.append tb 12 (by first | exact Wt.none | exact Wt.some rfl rfl (by first | exact rfl | decide +kernel)) rfl (.inl ⟨_, rfl⟩) rfl rfl rfl rfl rfl (Src.slice (m := 1) (Rd.blk 0 rfl) (At.all _) rfl (one_of_all rfl)) (by omega) (by omega) ?_)
    intro p2 c2
    (repeat (first | refine GK.ro ?_ | (refine GK.box ?_; intro bl) | (refine GK.mkMap ?_; intro bm) | (refine GK.build0 tb ?_; intro bs)))
    have e : vxB p v = [1] := by unfold vxB; rw [if_neg hb1, if_pos hb]
    rw [e]
    exact GQ.fin1 (Γ' := [brow (.slice p2 (l ++ [1]).length c2) (l ++ [1]), poolOf H]) rfl (Rv.tmp rfl) (fun w s => by rw [← brow_grow]; exact Sat.sub (by repeat (first | exact SubR.nil | apply SubR.cons 0 rfl | apply SubR.cons 1 rfl | apply SubR.cons 2 rfl | apply SubR.cons 3 rfl | apply SubR.cons 4 rfl | apply SubR.cons 5 rfl | apply SubR.cons 6 rfl | apply SubR.cons 7 rfl | apply SubR.cons 8 rfl | apply SubR.cons 9 rfl | apply SubR.cons 10 rfl | apply SubR.cons 11 rfl | apply SubR.cons 12 rfl | apply SubR.cons 13 rfl | apply SubR.cons 14 rfl | apply SubR.cons 15 rfl)) s) ⟨p2, c2, by rw [List.length_append]; rfl, by rw [List.length_append]; rfl⟩
  · rename_i bp hb1
    obtain ⟨⟨k, hk, hk2⟩, n, hn, hn2⟩ := own_parts ((hg.resolve_left hb1).resolve_left hb)
    have hdl := ho.deps
    have e : vxB p v = 2 :: (uv k ++ uv n) := by unfold vxB; rw [if_neg hb1, if_neg hb, hk, hn]; simp
    clear z5 z4
    have h2' : At (vxC v) (0 + 0) (u8s v.h) := vxC_hash v
    have h3 : (u8s v.h).length = 32 := by rw [u8s_len, hv.h]
    (repeat (first | refine GK.ro ?_ | (refine GK.box ?_; intro bl) | (refine GK.mkMap ?_; intro bm) | (refine GK.build0 tb ?_; intro bs)))
    refine GL.cons ?_; refine GO.callA (fun hF' hle hH => hindex_ok hp.deps ho.dep (by omega) hv.h) (by first | exact Wt.none | exact Wt.some rfl rfl (by first | exact rfl | decide +kernel)) (by kernel_rfl) rfl rfl (by repeat (first | exact SubR.nil | apply SubR.cons 0 rfl | apply SubR.cons 1 rfl | apply SubR.cons 2 rfl | apply SubR.cons 3 rfl | apply SubR.cons 4 rfl | apply SubR.cons 5 rfl | apply SubR.cons 6 rfl | apply SubR.cons 7 rfl | apply SubR.cons 8 rfl | apply SubR.cons 9 rfl | apply SubR.cons 10 rfl | apply SubR.cons 11 rfl | apply SubR.cons 12 rfl | apply SubR.cons 13 rfl | apply SubR.cons 14 rfl | apply SubR.cons 15 rfl)) ?_
    rintro r Γ' ⟨rfl, rfl⟩
    rw [hk, e]
    rw [hn] at h1'
    (repeat (first | refine GK.ro ?_ | (refine GK.box ?_; intro bl) | (refine GK.mkMap ?_; intro bm) | (refine GK.build0 tb ?_; intro bs)))
    refine GK.heap (Γ' := [brow (.slice q l.length c) l, blk bl 57 (0, 0) (vxC v), blk bp 25 (0, 0) (paC p dv ov), poolOf H]) (fun _ s => Sat.sub (by repeat (first | exact SubR.nil | apply SubR.cons 0 rfl | apply SubR.cons 1 rfl | apply SubR.cons 2 rfl | apply SubR.cons 3 rfl | apply SubR.cons 4 rfl | apply SubR.cons 5 rfl | apply SubR.cons 6 rfl | apply SubR.cons 7 rfl | apply SubR.cons 8 rfl | apply SubR.cons 9 rfl | apply SubR.cons 10 rfl | apply SubR.cons 11 rfl | apply SubR.cons 12 rfl | apply SubR.cons 13 rfl | apply SubR.cons 14 rfl | apply SubR.cons 15 rfl)) s) ?_
    refine G.draw [] [blk bl 57 (0, 0) (vxC v)] (by kernel_rfl) ?_
    ((first | refine GH.to 0 ?_ | refine GH.tos 0 ?_); (first | refine GH.to 3 ?_ | refine GH.tos 3 ?_); (first | refine GH.to 4 ?_ | refine GH.tos 4 ?_); (first | refine GH.to 6 ?_ | refine GH.tos 6 ?_); (first | refine GH.to 7 ?_ | refine GH.tos 7 ?_); (first | refine GH.to 8 ?_ | refine GH.tos 8 ?_))
    refine GH.step 1 rfl (by kernel_rfl) ?_
    refine Gt.buildLit tb (sz := 0) (n := 0) (by first | exact Wt.none | exact Wt.some rfl rfl (by first | exact rfl | decide +kernel)) rfl rfl (by kernel_rfl) rfl rfl rfl rfl rfl rfl ?_
    intro bx
    refine GH.keep (fun _ s => Sat.sub (by repeat (first | exact SubR.nil | apply SubR.cons 0 rfl | apply SubR.cons 1 rfl | apply SubR.cons 2 rfl | apply SubR.cons 3 rfl | apply SubR.cons 4 rfl | apply SubR.cons 5 rfl | apply SubR.cons 6 rfl | apply SubR.cons 7 rfl | apply SubR.cons 8 rfl | apply SubR.cons 9 rfl | apply SubR.cons 10 rfl | apply SubR.cons 11 rfl | apply SubR.cons 12 rfl | apply SubR.cons 13 rfl | apply SubR.cons 14 rfl | apply SubR.cons 15 rfl)) s) ?_
    refine GH.step 2 rfl (by kernel_rfl) ?_
    (first | refine Gt.append tb 1 (by first | exact Wt.none | exact Wt.some rfl rfl (by first | exact rfl | decide +kernel)) rfl (.inl ⟨_, rfl⟩) rfl rfl rfl rfl rfl (Src.slice (m := 1) (Rd.blk 0 rfl) (At.all _) rfl (one_of_all rfl)) (by omega) (by omega) ?_ | refine Gt.append tb 2 (by first | exact Wt.none | exact Wt.some rfl rfl (by first | exact rfl | decide +kernel)) rfl (.inl ⟨_, rfl⟩) rfl rfl rfl rfl rfl (Src.slice (m := 1) (Rd.blk 0 rfl) (At.all _) rfl (one_of_all rfl)) (by omega) (by omega) ?_ | refine Gt.append tb 3 (by first | exact Wt.none | exact Wt.some rfl rfl (by first | exact rfl | decide +kernel)) rfl (.inl ⟨_, rfl⟩) rfl rfl rfl rfl rfl (Src.slice (m := 1) (Rd.blk 0 rfl) (At.all _) rfl (one_of_all rfl)) (by omega) (by omega) ?_ | refine Gt.append tb 4 (by first | exact Wt.none | exact Wt.some rfl rfl (by first | exact rfl | decide +kernel)) rfl (.inl ⟨_, rfl⟩) rfl rfl rfl rfl rfl (Src.slice (m := 1) (Rd.blk 0 rfl) (At.all _) rfl (one_of_all rfl)) (by omega) (by omega) ?_ | refine Gt.append tb 5 (by first | exact Wt.none | exact Wt.some rfl rfl (by first | exact rfl | decide +kernel)) rfl (.inl ⟨_, rfl⟩) rfl rfl rfl rfl rfl (Src.slice (m := 1) (Rd.blk 0 rfl) (At.all _) rfl (one_of_all rfl)) (by omega) (by omega) ?_ | refine Gt.append tb 6 (by first | exact Wt.none | exact Wt.some rfl rfl (by first | exact rfl | decide +kernel)) rfl (.inl ⟨_, rfl⟩) rfl rfl rfl rfl rfl (Src.slice (m := 1) (Rd.blk 0 rfl) (At.all _) rfl (one_of_all rfl)) (by omega) (by omega) ?_ | refine Gt.append tb 7 (by first | exact Wt.none | exact Wt.some rfl rfl (by first | exact rfl | decide +kernel)) rfl (.inl ⟨_, rfl⟩) rfl rfl rfl rfl rfl (Src.slice (m := 1) (Rd.blk 0 rfl) (At.all _) rfl (one_of_all rfl)) (by omega) (by omega) ?_ | refine Gt.append tb 8 (by first | exact Wt.none | exact Wt.some rfl rfl (by first | exact rfl | decide +kernel)) rfl (.inl ⟨_, rfl⟩) rfl rfl rfl rfl rfl (Src.slice (m := 1) (Rd.blk 0 rfl) (At.all _) rfl (one_of_all rfl)) (by omega) (by omega) ?_ | refine Gt.append tb 9 (by first | exact Wt.none | exact Wt.some rfl rfl (by first | exact rfl | decide +kernel)) rfl (.inl ⟨_, rfl⟩) rfl rfl rfl rfl rfl (Src.slice (m := 1) (Rd.blk 0 rfl) (At.all _) rfl (one_of_all rfl)) (by omega) (by omega) ?_ | refine Gt.append tb 10 (by first | exact Wt.none | exact Wt.some rfl rfl (by first | exact rfl | decide +kernel)) rfl (.inl ⟨_, rfl⟩) rfl rfl rfl rfl rfl (Src.slice (m := 1) (Rd.blk 0 rfl) (At.all _) rfl (one_of_all rfl)) (by omega) (by omega) ?_ | refine Gt.append tb 11 (by first | exact Wt.none | exact Wt.some rfl rfl (by first | exact rfl | decide +kernel)) rfl (.inl ⟨_, rfl⟩) rfl rfl rfl rfl rfl (Src.slice (m := 1) (Rd.blk 0 rfl) (At.all _) rfl (one_of_all rfl)) (by omega) (by omega) ?_ | refine Gt.append tb 12 (by first | exact Wt.none | exact Wt.some rfl rfl (by first | exact rfl | decide +kernel)) rfl (.inl ⟨_, rfl⟩) rfl rfl rfl rfl rfl (Src.slice (m := 1) (Rd.blk 0 rfl) (At.all _) rfl (one_of_all rfl)) (by omega) (by omega) ?_)
    intro p2 c2
    refine GH.keep (fun _ s => Sat.sub (by repeat (first | exact SubR.nil | apply SubR.cons 0 rfl | apply SubR.cons 1 rfl | apply SubR.cons 2 rfl | apply SubR.cons 3 rfl | apply SubR.cons 4 rfl | apply SubR.cons 5 rfl | apply SubR.cons 6 rfl | apply SubR.cons 7 rfl | apply SubR.cons 8 rfl | apply SubR.cons 9 rfl | apply SubR.cons 10 rfl | apply SubR.cons 11 rfl | apply SubR.cons 12 rfl | apply SubR.cons 13 rfl | apply SubR.cons 14 rfl | apply SubR.cons 15 rfl)) s) ?_
    refine GH.weak (fr' := [(28, .slice p2 (l ++ [2]).length c2), (30, .int .u64 (k : Int)), (34, .int .u64 (n : Int))]) (Γ' := [brow (.slice p2 (l ++ [2]).length c2) (l ++ [2]), blk bl 57 (0, 0) (vxC v), poolOf H]) (by rw [List.length_append]; exact (by repeat (first | exact trivial | refine ⟨rfl, ?_⟩))) (fun w s => by rw [← brow_grow]; exact Sat.sub (by repeat (first | exact SubR.nil | apply SubR.cons 0 rfl | apply SubR.cons 1 rfl | apply SubR.cons 2 rfl | apply SubR.cons 3 rfl | apply SubR.cons 4 rfl | apply SubR.cons 5 rfl | apply SubR.cons 6 rfl | apply SubR.cons 7 rfl | apply SubR.cons 8 rfl | apply SubR.cons 9 rfl | apply SubR.cons 10 rfl | apply SubR.cons 11 rfl | apply SubR.cons 12 rfl | apply SubR.cons 13 rfl | apply SubR.cons 14 rfl | apply SubR.cons 15 rfl)) s) ?_
    have hl2 : (l ++ [2]).length ≤ 10000001 := by simp; omega
    refine GH.step 5 rfl (by kernel_rfl) ?_
    refine GO.callA (fun hF' hle hH => put_ok (A := brow (.slice p2 (l ++ [2]).length c2) (l ++ [2])) Reads.row k (by omega) (by omega)) (by first | exact Wt.none | exact Wt.some rfl rfl (by first | exact rfl | decide +kernel)) (by kernel_rfl) rfl rfl (by repeat (first | exact SubR.nil | apply SubR.cons 0 rfl | apply SubR.cons 1 rfl | apply SubR.cons 2 rfl | apply SubR.cons 3 rfl | apply SubR.cons 4 rfl | apply SubR.cons 5 rfl | apply SubR.cons 6 rfl | apply SubR.cons 7 rfl | apply SubR.cons 8 rfl | apply SubR.cons 9 rfl | apply SubR.cons 10 rfl | apply SubR.cons 11 rfl | apply SubR.cons 12 rfl | apply SubR.cons 13 rfl | apply SubR.cons 14 rfl | apply SubR.cons 15 rfl)) ?_
    rintro r Γ' ⟨p3, c3, rfl, rfl⟩
    refine GH.keep (fun _ s => Sat.sub (by repeat (first | exact SubR.nil | apply SubR.cons 0 rfl | apply SubR.cons 1 rfl | apply SubR.cons 2 rfl | apply SubR.cons 3 rfl | apply SubR.cons 4 rfl | apply SubR.cons 5 rfl | apply SubR.cons 6 rfl | apply SubR.cons 7 rfl | apply SubR.cons 8 rfl | apply SubR.cons 9 rfl | apply SubR.cons 10 rfl | apply SubR.cons 11 rfl | apply SubR.cons 12 rfl | apply SubR.cons 13 rfl | apply SubR.cons 14 rfl | apply SubR.cons 15 rfl)) s) ?_
    have hu := uv_len10 (n := k) (by omega)
    have hl3 : (l ++ [2] ++ uv k).length ≤ 10000011 := by simp at *; omega
    refine GH.step 9 rfl (by kernel_rfl) ?_
    refine GO.callA (fun hF' hle hH => put_ok (A := brow (.slice p3 (l ++ [2] ++ uv k).length c3) (l ++ [2] ++ uv k)) Reads.row n (by omega) (by omega)) (by first | exact Wt.none | exact Wt.some rfl rfl (by first | exact rfl | decide +kernel)) (by kernel_rfl) rfl rfl (by repeat (first | exact SubR.nil | apply SubR.cons 0 rfl | apply SubR.cons 1 rfl | apply SubR.cons 2 rfl | apply SubR.cons 3 rfl | apply SubR.cons 4 rfl | apply SubR.cons 5 rfl | apply SubR.cons 6 rfl | apply SubR.cons 7 rfl | apply SubR.cons 8 rfl | apply SubR.cons 9 rfl | apply SubR.cons 10 rfl | apply SubR.cons 11 rfl | apply SubR.cons 12 rfl | apply SubR.cons 13 rfl | apply SubR.cons 14 rfl | apply SubR.cons 15 rfl)) ?_
    rintro r Γ' ⟨p4, c4, rfl, rfl⟩
    refine GH.keep (fun _ s => Sat.sub (by repeat (first | exact SubR.nil | apply SubR.cons 0 rfl | apply SubR.cons 1 rfl | apply SubR.cons 2 rfl | apply SubR.cons 3 rfl | apply SubR.cons 4 rfl | apply SubR.cons 5 rfl | apply SubR.cons 6 rfl | apply SubR.cons 7 rfl | apply SubR.cons 8 rfl | apply SubR.cons 9 rfl | apply SubR.cons 10 rfl | apply SubR.cons 11 rfl | apply SubR.cons 12 rfl | apply SubR.cons 13 rfl | apply SubR.cons 14 rfl | apply SubR.cons 15 rfl)) s) ?_
    ((first | refine GH.to 10 ?_ | refine GH.tos 10 ?_))
    refine GH.fin (by kernel_rfl) ?_
    (repeat (first | refine GK.ro ?_ | (refine GK.box ?_; intro bl) | (refine GK.mkMap ?_; intro bm) | (refine GK.build0 tb ?_; intro bs)))
    have e4 : l ++ 2 :: (uv k ++ uv n) = l ++ [2] ++ uv k ++ uv n := by simp
    rw [e4]
    exact GQ.fin1 rfl (Rv.tmp rfl) (fun _ s => Sat.sub (by repeat (first | exact SubR.nil | apply SubR.cons 0 rfl | apply SubR.cons 1 rfl | apply SubR.cons 2 rfl | apply SubR.cons 3 rfl | apply SubR.cons 4 rfl | apply SubR.cons 5 rfl | apply SubR.cons 6 rfl | apply SubR.cons 7 rfl | apply SubR.cons 8 rfl | apply SubR.cons 9 rfl | apply SubR.cons 10 rfl | apply SubR.cons 11 rfl | apply SubR.cons 12 rfl | apply SubR.cons 13 rfl | apply SubR.cons 14 rfl | apply SubR.cons 15 rfl)) s) ⟨p4, c4, rfl, rfl⟩
end Go.Pb
