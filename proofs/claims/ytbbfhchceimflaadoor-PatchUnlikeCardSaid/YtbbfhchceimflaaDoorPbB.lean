/- Hashes in lists; whose lines. -/
import Derived.Test.YtbbfhchceimflaaDoorPbA
import Derived.Test.YtbbfhchceimflaaDoorLbB
set_option linter.unusedSimpArgs false
set_option linter.unusedVariables false
namespace Go.Pb
open Go Go.Sl Go.Lb Go.Pa Go.Oc
/-- The place of a hash in a list; -1: none. -/
def placeI (l : List By) (h : By) : Int := match l.findIdx? (· == h) with
  | some i => (i : Int)
  | none => -1
def placeN (l : List By) (h : By) : Nat := (l.findIdx? (· == h)).getD 0
theorem placeI_none {l : List By} {h : By} (hn : ∀ (j : Nat) (x : By), l[j]? = some x → x ≠ h) : placeI l h = -1 := by
  unfold placeI
  have : l.findIdx? (· == h) = none := List.findIdx?_eq_none_iff.2 fun x hx => by
    obtain ⟨j, hj⟩ := List.getElem?_of_mem hx
    simpa using hn j x hj
  rw [this]
theorem placeI_at {l : List By} {h : By} {i : Nat} (hi : l[i]? = some h) (hn : ∀ (j : Nat) (x : By), j < i → l[j]? = some x → x ≠ h) : placeI l h = i := by
  unfold placeI
  have hl := (List.getElem?_eq_some_iff.1 hi).1
  have : l.findIdx? (· == h) = some i := List.findIdx?_eq_some_iff_getElem.2 ⟨hl, by rw [(List.getElem?_eq_some_iff.1 hi).2]; simp, fun j hj => by
    have := hn j l[j] hj (List.getElem?_eq_getElem (by omega))
    simpa using this⟩
  rw [this]
theorem placeI_mem {l : List By} {h : By} : decide (0 ≤ placeI l h) = l.contains h := by
  unfold placeI
  cases hf : l.findIdx? (· == h) with
  | none =>
    have h1 := List.findIdx?_eq_none_iff.1 hf
    have : l.contains h = false := by
      rw [List.contains_eq_mem]
      refine decide_eq_false fun hm => ?_
      have := h1 h hm; simp at this
    rw [this]; rfl
  | some i =>
    obtain ⟨hi, h1, _⟩ := List.findIdx?_eq_some_iff_getElem.1 hf
    have : l.contains h = true := by
      rw [List.contains_eq_mem]
      refine decide_eq_true ?_
      have : l[i] = h := by simpa using h1
      rw [← this]; exact List.getElem_mem hi
    rw [this]; exact decide_eq_true (by show (0 : Int) ≤ (i : Int); omega)
theorem placeI_bound (l : List By) (h : By) : -1 ≤ placeI l h ∧ placeI l h < l.length := by
  unfold placeI
  cases hf : l.findIdx? (· == h) with
  | none => simp; omega
  | some i =>
    obtain ⟨hi, _⟩ := List.findIdx?_eq_some_iff_getElem.1 hf
    simp; omega
theorem at_trans {cs xs A : List Value} {o i : Nat} (h : At cs o xs) (k : At xs i A) : At cs (o + i) A := fun j v e => by
  have := h _ v (k j v e)
  rwa [← Nat.add_assoc] at this
theorem hs_at {l : List By} (hl : ∀ h ∈ l, h.length = 32) {i : Nat} {h : By} (hi : l[i]? = some h) : At (hs l) (i * 32) (u8s h) := by
  induction l generalizing i with
  | nil => simp at hi
  | cons a l ih =>
    have ha : (u8s a).length = 32 := by rw [u8s_len]; exact hl a (by simp)
    intro j v hj
    unfold hs at *
    rw [List.flatMap_cons]
    cases i with
    | zero =>
      simp at hi; subst hi
      rw [Nat.zero_mul, Nat.zero_add, List.getElem?_append_left (List.getElem?_eq_some_iff.1 hj).1]; exact hj
    | succ i =>
      simp at hi
      rw [List.getElem?_append_right (by omega), ha, show (i + 1) * 32 + j - 32 = i * 32 + j by omega]
      exact ih (fun h hh => hl h (by simp [hh])) hi j v hj
def ownM (p : Pch) (v : Vx) : Bool := decide (0 ≤ v.line) && (decide (v.line < 64) && p.deps.contains v.h)
set_option maxRecDepth 100000
set_option maxHeartbeats 4000000
attribute [local irreducible] GK GO Yl Wt Ef Hd GH KH wpListIn Code.wpIn toBody roundQ poolOf rs RS YieldOk IterOk VOk row star exs mp lp Sat pt FnOk Rd bodyPost bodyPostM Lv Ret Exit.then Exit.inBlock Exit.noGoto Int.decLt Int.decLe Int.instDecidableEq
attribute [local irreducible] u8s hs strs vxC opC placeI pathM nameM
set_option pp.deepTerms true
set_option pp.maxSteps 1000000
variable {hF H : Hp}
theorem hindex_ok {l : List By} {dv : Value} (hd : rs H dv l.length 32 (hs l)) (hl : ∀ h ∈ l, h.length = 32) (hn : l.length ≤ 1000000000) {h : By} (hh : h.length = 32) :
    FnOk Go.Proofs.Tryd.prog 53 [dv, .agg ⟨u8s h⟩] [poolOf H] hF (fun v Γ => v = .int .i64 (placeI l h) ∧ Γ = [poolOf H]) := by
  obtain ⟨p, c, rfl, hc, hln, hr⟩ := rs.out hd
  have h32 : (u8s h).length = 32 := by rw [u8s_len, hh]
  have hA0 : At (u8s h) 0 (u8s h) := At.all _
  refine FnOk.intro 19 Go.Proofs.Tryd.func53 rfl rfl fun w0 => ?_
  (repeat (first | refine GK.ro ?_ | (refine GK.box ?_; intro bl) | (refine GK.mkMap ?_; intro bm) | (refine GK.build0 tb ?_; intro bs)))
  refine GK.weak (fr' := [(0, .slice p l.length c), (3, .pointer (some ⟨bl, 0, none⟩)), (7, .int .i64 (l.length : Int)), (8, .int .i64 ((0 : Nat) : Int))]) (Γ' := [blk bl 37 (0, 0) (u8s h), poolOf H]) (by repeat (first | exact trivial | refine ⟨rfl, ?_⟩)) (fun _ s => Sat.sub (by repeat (first | exact SubR.nil | apply SubR.cons 0 rfl | apply SubR.cons 1 rfl | apply SubR.cons 2 rfl | apply SubR.cons 3 rfl | apply SubR.cons 4 rfl | apply SubR.cons 5 rfl | apply SubR.cons 6 rfl | apply SubR.cons 7 rfl | apply SubR.cons 8 rfl | apply SubR.cons 9 rfl | apply SubR.cons 10 rfl | apply SubR.cons 11 rfl | apply SubR.cons 12 rfl | apply SubR.cons 13 rfl | apply SubR.cons 14 rfl | apply SubR.cons 15 rfl)) s) (G.loopN (fun x : Nat => l.length - x) (fun x => [(0, .slice p l.length c), (3, .pointer (some ⟨bl, 0, none⟩)), (7, .int .i64 (l.length : Int)), (8, .int .i64 (x : Int))]) (fun _ => [blk bl 37 (0, 0) (u8s h), poolOf H])
    (fun x => x ≤ l.length ∧ ∀ j y, j < x → l[j]? = some y → y ≠ h) (fun i hi n hn' => ?_) 0 ⟨Nat.zero_le _, fun j y hj => by omega⟩)
  obtain ⟨hi, hno⟩ := hi
  (repeat (first | refine GK.ro ?_ | (refine GK.box ?_; intro bl) | (refine GK.mkMap ?_; intro bm) | (refine GK.build0 tb ?_; intro bs)))
  (first | refine G.condP rfl (fun hb => ?_) (fun hb => ?_) | refine G.condN rfl (fun hb => ?_) (fun hb => ?_) | refine G.cond rfl (fun hb => ?_) (fun hb => ?_))
  · obtain ⟨y, hy⟩ : ∃ y, l[i]? = some y := ⟨_, List.getElem?_eq_getElem (by omega)⟩
    have hyl := hl y (List.mem_of_getElem? hy)
    obtain ⟨bb, o, cs, et, fz, rfl, hbb, hat⟩ := hr (by omega)
    have hAt : At cs (o + (i : Int).toNat * 32) (u8s y) := at_trans hat (hs_at hl hy)
    have hy32 : (u8s y).length = 32 := by rw [u8s_len, hyl]
    (repeat (first | refine GK.ro ?_ | (refine GK.box ?_; intro bl) | (refine GK.mkMap ?_; intro bm) | (refine GK.build0 tb ?_; intro bs)))
    have heq := eq_hash hh hyl
    refine G.draw [] [blk bl 37 (0, 0) (u8s h), poolOf H] (by kernel_rfl) ?_
    ((first | refine GH.to 0 ?_ | refine GH.tos 0 ?_); (first | refine GH.to 1 ?_ | refine GH.tos 1 ?_); (first | refine GH.to 2 ?_ | refine GH.tos 2 ?_); (first | refine GH.to 3 ?_ | refine GH.tos 3 ?_); (first | refine GH.to 4 ?_ | refine GH.tos 4 ?_); (first | refine GH.to 5 ?_ | refine GH.tos 5 ?_))
    refine GH.fin (by kernel_rfl) ?_
    (repeat (first | refine GK.ro ?_ | (refine GK.box ?_; intro bl) | (refine GK.mkMap ?_; intro bm) | (refine GK.build0 tb ?_; intro bs)))
    (first | refine G.condP rfl (fun hb => ?_) (fun hb => ?_) | refine G.condN rfl (fun hb => ?_) (fun hb => ?_) | refine G.cond rfl (fun hb => ?_) (fun hb => ?_))
    · obtain rfl : y = h := (beq_iff_eq.1 hb).symm
      rw [placeI_at hy hno]
      (repeat (first | refine GK.ro ?_ | (refine GK.box ?_; intro bl) | (refine GK.mkMap ?_; intro bm) | (refine GK.build0 tb ?_; intro bs)))
      exact GQ.fin1 rfl (Rv.tmp rfl) (fun _ s => Sat.sub (by repeat (first | exact SubR.nil | apply SubR.cons 0 rfl | apply SubR.cons 1 rfl | apply SubR.cons 2 rfl | apply SubR.cons 3 rfl | apply SubR.cons 4 rfl | apply SubR.cons 5 rfl | apply SubR.cons 6 rfl | apply SubR.cons 7 rfl | apply SubR.cons 8 rfl | apply SubR.cons 9 rfl | apply SubR.cons 10 rfl | apply SubR.cons 11 rfl | apply SubR.cons 12 rfl | apply SubR.cons 13 rfl | apply SubR.cons 14 rfl | apply SubR.cons 15 rfl)) s) ⟨rfl, rfl⟩
    · (repeat (first | refine GK.ro ?_ | (refine GK.box ?_; intro bl) | (refine GK.mkMap ?_; intro bm) | (refine GK.build0 tb ?_; intro bs)))
      (refine GQ.againN (i + 1) ?_ ?_ ?_ ?_; rotate_left; (first | omega | (dsimp only; omega)); exact (by repeat (first | exact trivial | refine ⟨rfl, ?_⟩)); exact (fun _ s => Sat.sub (by repeat (first | exact SubR.nil | apply SubR.cons 0 rfl | apply SubR.cons 1 rfl | apply SubR.cons 2 rfl | apply SubR.cons 3 rfl | apply SubR.cons 4 rfl | apply SubR.cons 5 rfl | apply SubR.cons 6 rfl | apply SubR.cons 7 rfl | apply SubR.cons 8 rfl | apply SubR.cons 9 rfl | apply SubR.cons 10 rfl | apply SubR.cons 11 rfl | apply SubR.cons 12 rfl | apply SubR.cons 13 rfl | apply SubR.cons 14 rfl | apply SubR.cons 15 rfl)) s))
      refine ⟨by omega, fun j z hj hz => ?_⟩
      rcases Nat.lt_or_ge j i with q | q
      · exact hno j z q hz
      · obtain rfl : j = i := by omega
        rw [hy] at hz; cases hz
        intro e; subst e; simp at hb
  · rw [placeI_none fun j y hy => hno j y (by have := (List.getElem?_eq_some_iff.1 hy).1; omega) hy]
    (repeat (first | refine GK.ro ?_ | (refine GK.box ?_; intro bl) | (refine GK.mkMap ?_; intro bm) | (refine GK.build0 tb ?_; intro bs)))
    exact GQ.fin1 rfl (Rv.tmp rfl) (fun _ s => Sat.sub (by repeat (first | exact SubR.nil | apply SubR.cons 0 rfl | apply SubR.cons 1 rfl | apply SubR.cons 2 rfl | apply SubR.cons 3 rfl | apply SubR.cons 4 rfl | apply SubR.cons 5 rfl | apply SubR.cons 6 rfl | apply SubR.cons 7 rfl | apply SubR.cons 8 rfl | apply SubR.cons 9 rfl | apply SubR.cons 10 rfl | apply SubR.cons 11 rfl | apply SubR.cons 12 rfl | apply SubR.cons 13 rfl | apply SubR.cons 14 rfl | apply SubR.cons 15 rfl)) s) ⟨rfl, rfl⟩
theorem hcontains_ok {l : List By} {dv : Value} (hd : rs H dv l.length 32 (hs l)) (hl : ∀ h ∈ l, h.length = 32) (hn : l.length ≤ 1000000000) {h : By} (hh : h.length = 32) :
    FnOk Go.Proofs.Tryd.prog 97 [dv, .agg ⟨u8s h⟩] [poolOf H] hF (fun v Γ => v = .bool (l.contains h) ∧ Γ = [poolOf H]) := by
  have h32 : (u8s h).length = 32 := by rw [u8s_len, hh]
  have hA0 : At (u8s h) 0 (u8s h) := At.all _
  refine FnOk.intro 9 Go.Proofs.Tryd.func97 rfl rfl fun w0 => ?_
  (repeat (first | refine GK.ro ?_ | (refine GK.box ?_; intro bl) | (refine GK.mkMap ?_; intro bm) | (refine GK.build0 tb ?_; intro bs)))
  refine GL.cons ?_; refine GO.callA (fun hF' hle hH => hindex_ok hd hl hn hh) (by first | exact Wt.none | exact Wt.some rfl rfl (by first | exact rfl | decide +kernel)) (by kernel_rfl) rfl rfl (by repeat (first | exact SubR.nil | apply SubR.cons 0 rfl | apply SubR.cons 1 rfl | apply SubR.cons 2 rfl | apply SubR.cons 3 rfl | apply SubR.cons 4 rfl | apply SubR.cons 5 rfl | apply SubR.cons 6 rfl | apply SubR.cons 7 rfl | apply SubR.cons 8 rfl | apply SubR.cons 9 rfl | apply SubR.cons 10 rfl | apply SubR.cons 11 rfl | apply SubR.cons 12 rfl | apply SubR.cons 13 rfl | apply SubR.cons 14 rfl | apply SubR.cons 15 rfl)) ?_
  rintro v Γ' ⟨rfl, rfl⟩
  (repeat (first | refine GK.ro ?_ | (refine GK.box ?_; intro bl) | (refine GK.mkMap ?_; intro bm) | (refine GK.build0 tb ?_; intro bs)))
  rw [placeI_mem]
  exact GQ.fin1 rfl (Rv.tmp rfl) (fun _ s => Sat.sub (by repeat (first | exact SubR.nil | apply SubR.cons 0 rfl | apply SubR.cons 1 rfl | apply SubR.cons 2 rfl | apply SubR.cons 3 rfl | apply SubR.cons 4 rfl | apply SubR.cons 5 rfl | apply SubR.cons 6 rfl | apply SubR.cons 7 rfl | apply SubR.cons 8 rfl | apply SubR.cons 9 rfl | apply SubR.cons 10 rfl | apply SubR.cons 11 rfl | apply SubR.cons 12 rfl | apply SubR.cons 13 rfl | apply SubR.cons 14 rfl | apply SubR.cons 15 rfl)) s) ⟨rfl, rfl⟩
theorem own_ok {p : Pch} {dv ov : Value} (hp : PaAt H p dv ov) (ho : p.Ok) {v : Vx} (hv : v.Ok) :
    FnOk Go.Proofs.Tryd.prog 78 [.agg ⟨paC p dv ov⟩, .agg ⟨vxC v⟩] [poolOf H] hF (fun r Γ => r = .bool (ownM p v) ∧ Γ = [poolOf H]) := by
  have h1 := vxC_line hv
  have h1' : (vxC v)[0 + 32]? = some (.int .i64 v.line) := h1
  have h2 := vxC_hash v
  have h2' : At (vxC v) (0 + 0) (u8s v.h) := h2
  have h3 : (u8s v.h).length = 32 := by rw [u8s_len, hv.h]
  refine FnOk.intro 20 Go.Proofs.Tryd.func78 rfl rfl fun w0 => ?_
  (repeat' (first | refine GK.ro ?_ | (refine GK.box ?_; intro bl) | (refine GK.mkMap ?_; intro bm) | (refine GK.build0 tb ?_; intro bs) | (first | refine G.condP rfl (fun hb => ?_) (fun hb => ?_) | refine G.condN rfl (fun hb => ?_) (fun hb => ?_) | refine G.cond rfl (fun hb => ?_) (fun hb => ?_)) | ((fail_if_success refine GL.fork (b := true) rfl rfl ?_ ?_); (fail_if_success refine GL.fork (b := false) rfl rfl ?_ ?_); first | refine GL.forkP rfl rfl (fun hb => ?_) (fun hb => ?_) | refine GL.forkN rfl rfl (fun hb => ?_) (fun hb => ?_) | refine GL.fork rfl rfl (fun hb => ?_) (fun hb => ?_)) | ((fail_if_success refine GL.forkPick (b := true) rfl ?_ ?_); (fail_if_success refine GL.forkPick (b := false) rfl ?_ ?_); refine GL.forkPick rfl (fun hb => ?_) (fun hb => ?_))))
  all_goals try (refine GQ.fin1 rfl (Rv.tmp rfl) (fun _ s => Sat.sub (by repeat (first | exact SubR.nil | apply SubR.cons 0 rfl | apply SubR.cons 1 rfl | apply SubR.cons 2 rfl | apply SubR.cons 3 rfl | apply SubR.cons 4 rfl | apply SubR.cons 5 rfl | apply SubR.cons 6 rfl | apply SubR.cons 7 rfl | apply SubR.cons 8 rfl | apply SubR.cons 9 rfl | apply SubR.cons 10 rfl | apply SubR.cons 11 rfl | apply SubR.cons 12 rfl | apply SubR.cons 13 rfl | apply SubR.cons 14 rfl | apply SubR.cons 15 rfl)) s) ⟨?_, rfl⟩; unfold ownM; (congr 1; rw [Bool.eq_iff_iff]; first | (simp [*]; done) | (simp [*]; omega) | (simp at *; omega) | (simp_all; omega)))
  refine GL.cons ?_; refine GO.callA (fun hF' hle hH => hcontains_ok hp.deps ho.dep (by have := ho.deps; omega) hv.h) (by first | exact Wt.none | exact Wt.some rfl rfl (by first | exact rfl | decide +kernel)) (by kernel_rfl) rfl rfl (by repeat (first | exact SubR.nil | apply SubR.cons 0 rfl | apply SubR.cons 1 rfl | apply SubR.cons 2 rfl | apply SubR.cons 3 rfl | apply SubR.cons 4 rfl | apply SubR.cons 5 rfl | apply SubR.cons 6 rfl | apply SubR.cons 7 rfl | apply SubR.cons 8 rfl | apply SubR.cons 9 rfl | apply SubR.cons 10 rfl | apply SubR.cons 11 rfl | apply SubR.cons 12 rfl | apply SubR.cons 13 rfl | apply SubR.cons 14 rfl | apply SubR.cons 15 rfl)) ?_
  rintro r Γ' ⟨rfl, rfl⟩
  (repeat' (first | refine GK.ro ?_ | (refine GK.box ?_; intro bl) | (refine GK.mkMap ?_; intro bm) | (refine GK.build0 tb ?_; intro bs) | (first | refine G.condP rfl (fun hb => ?_) (fun hb => ?_) | refine G.condN rfl (fun hb => ?_) (fun hb => ?_) | refine G.cond rfl (fun hb => ?_) (fun hb => ?_)) | ((fail_if_success refine GL.fork (b := true) rfl rfl ?_ ?_); (fail_if_success refine GL.fork (b := false) rfl rfl ?_ ?_); first | refine GL.forkP rfl rfl (fun hb => ?_) (fun hb => ?_) | refine GL.forkN rfl rfl (fun hb => ?_) (fun hb => ?_) | refine GL.fork rfl rfl (fun hb => ?_) (fun hb => ?_)) | ((fail_if_success refine GL.forkPick (b := true) rfl ?_ ?_); (fail_if_success refine GL.forkPick (b := false) rfl ?_ ?_); refine GL.forkPick rfl (fun hb => ?_) (fun hb => ?_))))
  all_goals (refine GQ.fin1 rfl (Rv.tmp rfl) (fun _ s => Sat.sub (by repeat (first | exact SubR.nil | apply SubR.cons 0 rfl | apply SubR.cons 1 rfl | apply SubR.cons 2 rfl | apply SubR.cons 3 rfl | apply SubR.cons 4 rfl | apply SubR.cons 5 rfl | apply SubR.cons 6 rfl | apply SubR.cons 7 rfl | apply SubR.cons 8 rfl | apply SubR.cons 9 rfl | apply SubR.cons 10 rfl | apply SubR.cons 11 rfl | apply SubR.cons 12 rfl | apply SubR.cons 13 rfl | apply SubR.cons 14 rfl | apply SubR.cons 15 rfl)) s) ⟨?_, rfl⟩; unfold ownM; (congr 1; rw [Bool.eq_iff_iff]; first | (simp [*]; done) | (simp [*]; omega) | (simp at *; omega) | (simp_all; omega)))
end Go.Pb
