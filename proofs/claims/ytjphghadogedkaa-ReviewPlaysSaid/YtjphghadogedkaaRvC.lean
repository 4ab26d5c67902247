/- The keys of a map that have a value, rising. -/
import Derived.Test.YtjphghadogedkaaRvT
import Derived.Test.YtjphghadogedkaaRvB
set_option linter.unusedSimpArgs false
set_option linter.unusedVariables false
namespace Go.Re
open Go Go.Sl
def encV (vs : List (By × Int)) : List (By × Value) := vs.map fun x => (x.1, .int .i64 x.2)
def keysOf (n : Int) (vs : List (By × Int)) : List By := (vs.filter fun x => decide (x.2 = n)).map (·.1)
theorem encV_get {vs : List (By × Int)} {j : Nat} {k : By} {v : Value} (h : (encV vs)[j]? = some (k, v)) : ∃ n, vs[j]? = some (k, n) ∧ v = .int .i64 n := by
  unfold encV at h
  rw [List.getElem?_map] at h
  obtain ⟨⟨a, n⟩, h1, h2⟩ := Option.map_eq_some_iff.1 h
  simp only [Prod.mk.injEq] at h2
  exact ⟨n, by rw [h1, h2.1], h2.2.symm⟩
theorem encV_erase (vs : List (By × Int)) (j : Nat) : (encV vs).eraseIdx j = encV (vs.eraseIdx j) := by unfold encV; rw [map_eraseIdx]
theorem encV_len (vs : List (By × Int)) : (encV vs).length = vs.length := by unfold encV; simp
theorem keysOf_len (n : Int) (vs : List (By × Int)) : (keysOf n vs).length ≤ vs.length := by unfold keysOf; simp [List.length_filter_le]
theorem keysOf_perm {n : Int} {a b : List (By × Int)} (h : a.Perm b) : (keysOf n a).Perm (keysOf n b) := (h.filter _).map _
theorem keysOf_cons (n : Int) (x : By × Int) (a : List (By × Int)) : keysOf n (x :: a) = (if x.2 = n then [x.1] else []) ++ keysOf n a := by
  unfold keysOf; rw [List.filter_cons]; by_cases h : x.2 = n <;> simp [h]
theorem le_total' (a b : By) : (decide (a ≤ b) || decide (b ≤ a)) = true := by
  rcases Std.le_total (a := a) (b := b) with h | h <;> simp [h]
theorem sortS_perm (l : List By) : (sortS l).Perm l := List.mergeSort_perm _ _
theorem sortS_sorted (l : List By) : (sortS l).Pairwise (fun a b => decide (a ≤ b) = true) := List.pairwise_mergeSort (fun a b c h1 h2 => by
  simp only [decide_eq_true_eq] at *; exact Std.le_trans h1 h2) le_total' l
theorem sorted_eq {l m : List By} (h : l.Perm m) (h1 : l.Pairwise (fun a b => decide (a ≤ b) = true)) (h2 : m.Pairwise (fun a b => decide (a ≤ b) = true)) : l = m :=
  h.eq_of_pairwise (fun a b _ _ h1 h2 => by simp only [decide_eq_true_eq] at *; exact Std.le_antisymm h1 h2) h1 h2
theorem sortS_congr {l m : List By} (h : l.Perm m) : sortS l = sortS m := sorted_eq (((sortS_perm l).trans h).trans (sortS_perm m).symm) (sortS_sorted l) (sortS_sorted m)
theorem perm_erase {α : Type} {a : α} : ∀ {l : List α} {i : Nat}, l[i]? = some a → l.Perm (a :: l.eraseIdx i)
  | [], i, h => by simp at h
  | x :: l, 0, h => by simp at h; subst h; exact .refl _
  | x :: l, i + 1, h => ((perm_erase (l := l) (i := i) (by simpa using h)).cons x).trans (.swap _ _ _)
def ofM (n : Int) (vs : List (By × Int)) : List By := sortS (keysOf n vs)
set_option maxRecDepth 100000
set_option maxHeartbeats 4000000
attribute [local irreducible] GK GO Yl Wt Ef Hd GH KH wpListIn Code.wpIn toBody roundQ poolOf rs RS YieldOk IterOk VOk row star exs mp lp Sat pt FnOk Rd bodyPost bodyPostM Lv Ret Exit.then Exit.inBlock Exit.noGoto Int.decLt Int.decLe Int.instDecidableEq
attribute [local irreducible] u8s strs likeTo propC rng rngAt encV
set_option pp.deepTerms true
set_option pp.maxSteps 1000000
variable {hF H : Hp}
theorem of_ok {vs : List (By × Int)} {m : Nat} {n : Int} (hl : vs.length ≤ 1099511627776) :
    FnOk Go.Proofs.Try.prog 37 [.map (some m), .int .i64 n] [mp m (encV vs)] hF (fun v Γ => Γ = [row v 9 1 (ofM n vs).length (strs (ofM n vs)), mp m (encV vs)]) := by
  refine FnOk.intro 25 Go.Proofs.Try.func37 rfl rfl fun w0 => ?_
  (repeat (first | refine GK.ro ?_ | (refine GK.box ?_; intro bl) | (refine GK.mkMap ?_; intro bm) | (refine GK.build0 tb ?_; intro bs)))
  refine GL.cons ?_; refine GO.range 0 (by first | exact Wt.none | exact Wt.some rfl rfl (by first | exact rfl | decide +kernel)) rfl rfl rfl fun r => ?_
  (repeat (first | refine GK.ro ?_ | (refine GK.box ?_; intro bl) | (refine GK.mkMap ?_; intro bm) | (refine GK.build0 tb ?_; intro bs)))
  refine GK.weak (fr' := [(1, .int .i64 n), (9, .pointer (some ⟨r, 0, none⟩)), (5, .slice none 0 0)]) (Γ' := [row (.slice none 0 0) 9 1 0 (strs []), rng m r (encV vs) (encV vs)]) (by repeat (first | exact trivial | refine ⟨rfl, ?_⟩)) (fun w s => by rw [strs_nil]; exact Sat.row_nil s)
    (G.loopN (X := List By × Option Addr × Nat × List (By × Int)) (fun (_, _, _, lf) => lf.length) (fun (acc, p, c, _) => [(1, .int .i64 n), (9, .pointer (some ⟨r, 0, none⟩)), (5, .slice p acc.length c)]) (fun (acc, p, c, lf) => [row (.slice p acc.length c) 9 1 acc.length (strs acc), rng m r (encV vs) (encV lf)])
    (fun (acc, _, _, lf) => (acc ++ keysOf n lf).Perm (keysOf n vs)) (fun x hx q hq => ?_) ([], none, 0, vs) (by simp))
  obtain ⟨acc, p, c, lf⟩ := x
  dsimp only at hq hx
  have hal : acc.length ≤ vs.length := by
    have h1 := hx.length_eq; have h2 := keysOf_len n vs; rw [List.length_append] at h1; omega
  (repeat (first | refine GK.ro ?_ | (refine GK.box ?_; intro bl) | (refine GK.mkMap ?_; intro bm) | (refine GK.build0 tb ?_; intro bs)))
  refine GL.cons ?_; refine GO.next 1 (by first | exact Wt.none | exact Wt.some rfl rfl (by first | exact rfl | decide +kernel)) rfl rfl (fun h0 => ?_) (fun j k v hv => ?_)
  · have hlf : lf = [] := by have := congrArg List.length h0; rw [encV_len] at this; exact List.length_eq_zero_iff.1 this
    subst hlf
    have hp : acc.Perm (keysOf n vs) := by simpa [keysOf] using hx
    have he : ofM n vs = sortS acc := (sortS_congr hp).symm
    (repeat (first | refine GK.ro ?_ | (refine GK.box ?_; intro bl) | (refine GK.mkMap ?_; intro bm) | (refine GK.build0 tb ?_; intro bs)))
    refine GL.cons ?_; refine GO.callA (fun hF' hle hH => sort_ok (l := acc) (p := p) (c := c) (by omega)) (by first | exact Wt.none | exact Wt.some rfl rfl (by first | exact rfl | decide +kernel)) (by kernel_rfl) rfl rfl (by repeat (first | exact SubR.nil | apply SubR.cons 0 rfl | apply SubR.cons 1 rfl | apply SubR.cons 2 rfl | apply SubR.cons 3 rfl | apply SubR.cons 4 rfl | apply SubR.cons 5 rfl | apply SubR.cons 6 rfl | apply SubR.cons 7 rfl | apply SubR.cons 8 rfl | apply SubR.cons 9 rfl | apply SubR.cons 10 rfl | apply SubR.cons 11 rfl | apply SubR.cons 12 rfl | apply SubR.cons 13 rfl | apply SubR.cons 14 rfl | apply SubR.cons 15 rfl)) ?_
    rintro v Γ' ⟨rfl, rfl⟩
    (repeat (first | refine GK.ro ?_ | (refine GK.box ?_; intro bl) | (refine GK.mkMap ?_; intro bm) | (refine GK.build0 tb ?_; intro bs)))
    refine GQ.fin1 rfl (Rv.tmp rfl) (Γ' := [row (.slice p acc.length c) 9 1 acc.length (strs (sortS acc)), mp m (encV vs)]) (fun w s => ?_) ?_
    · exact (Sat.rng_mp (s.perm (.swap _ _ _))).perm (.swap _ _ _)
    · show _ = [row (.slice p acc.length c) _ 1 (ofM n vs).length (strs (ofM n vs)), mp m (encV vs)]
      rw [he, sortS_len]
  · obtain ⟨n2, hv2, rfl⟩ := encV_get hv
    rw [encV_erase]
    have hpm := hx
    have hlp := perm_erase hv2
    have hlt : j < lf.length := (List.getElem?_eq_some_iff.1 hv2).1
    have hel : (lf.eraseIdx j).length < lf.length := by rw [List.length_eraseIdx_of_lt hlt]; omega
    replace hpm := ((keysOf_perm (n := n) hlp).append_left acc).symm.trans hpm
    rw [keysOf_cons] at hpm
    (repeat (first | refine GK.ro ?_ | (refine GK.box ?_; intro bl) | (refine GK.mkMap ?_; intro bm) | (refine GK.build0 tb ?_; intro bs)))
    refine GL.cons ?_; refine GO.yield (by first | exact Wt.none | exact Wt.some rfl rfl (by first | exact rfl | decide +kernel)) (Yl.entry 0 rfl rfl) ?_
    refine GK.heap (fun w s => Sat.rngAt_rng s) ?_
    (repeat (first | refine GK.ro ?_ | (refine GK.box ?_; intro bl) | (refine GK.mkMap ?_; intro bm) | (refine GK.build0 tb ?_; intro bs)))
    (first | refine G.condP rfl (fun hb => ?_) (fun hb => ?_) | refine G.condN rfl (fun hb => ?_) (fun hb => ?_) | refine G.cond rfl (fun hb => ?_) (fun hb => ?_))
    · rw [if_pos hb] at hpm
      (repeat (first | refine GK.ro ?_ | (refine GK.box ?_; intro bl) | (refine GK.mkMap ?_; intro bm) | (refine GK.build0 tb ?_; intro bs)))
      refine GL.cons ?_; refine Gt.buildLit tb (sz := 0) (n := 0) (by first | exact Wt.none | exact Wt.some rfl rfl (by first | exact rfl | decide +kernel)) rfl rfl (by kernel_rfl) rfl rfl rfl rfl rfl rfl ?_; intro bx; refine GL.cons ?_; (first | refine Gt.append tb 1 (by first | exact Wt.none | exact Wt.some rfl rfl (by first | exact rfl | decide +kernel)) rfl (.inl ⟨_, rfl⟩) rfl rfl rfl rfl rfl (Src.slice (m := 1) (Rd.blk 0 rfl) (At.all _) rfl (one_of_all rfl)) (by omega) (by omega) ?_ | refine Gt.append tb 2 (by first | exact Wt.none | exact Wt.some rfl rfl (by first | exact rfl | decide +kernel)) rfl (.inl ⟨_, rfl⟩) rfl rfl rfl rfl rfl (Src.slice (m := 1) (Rd.blk 0 rfl) (At.all _) rfl (one_of_all rfl)) (by omega) (by omega) ?_ | refine Gt.append tb 3 (by first | exact Wt.none | exact Wt.some rfl rfl (by first | exact rfl | decide +kernel)) rfl (.inl ⟨_, rfl⟩) rfl rfl rfl rfl rfl (Src.slice (m := 1) (Rd.blk 0 rfl) (At.all _) rfl (one_of_all rfl)) (by omega) (by omega) ?_ | refine Gt.append tb 4 (by first | exact Wt.none | exact Wt.some rfl rfl (by first | exact rfl | decide +kernel)) rfl (.inl ⟨_, rfl⟩) rfl rfl rfl rfl rfl (Src.slice (m := 1) (Rd.blk 0 rfl) (At.all _) rfl (one_of_all rfl)) (by omega) (by omega) ?_ | refine Gt.append tb 5 (by first | exact Wt.none | exact Wt.some rfl rfl (by first | exact rfl | decide +kernel)) rfl (.inl ⟨_, rfl⟩) rfl rfl rfl rfl rfl (Src.slice (m := 1) (Rd.blk 0 rfl) (At.all _) rfl (one_of_all rfl)) (by omega) (by omega) ?_ | refine Gt.append tb 6 (by first | exact Wt.none | exact Wt.some rfl rfl (by first | exact rfl | decide +kernel)) rfl (.inl ⟨_, rfl⟩) rfl rfl rfl rfl rfl (Src.slice (m := 1) (Rd.blk 0 rfl) (At.all _) rfl (one_of_all rfl)) (by omega) (by omega) ?_ | refine Gt.append tb 7 (by first | exact Wt.none | exact Wt.some rfl rfl (by first | exact rfl | decide +kernel)) rfl (.inl ⟨_, rfl⟩) rfl rfl rfl rfl rfl (Src.slice (m := 1) (Rd.blk 0 rfl) (At.all _) rfl (one_of_all rfl)) (by omega) (by omega) ?_ | refine Gt.append tb 8 (by first | exact Wt.none | exact Wt.some rfl rfl (by first | exact rfl | decide +kernel)) rfl (.inl ⟨_, rfl⟩) rfl rfl rfl rfl rfl (Src.slice (m := 1) (Rd.blk 0 rfl) (At.all _) rfl (one_of_all rfl)) (by omega) (by omega) ?_ | refine Gt.append tb 9 (by first | exact Wt.none | exact Wt.some rfl rfl (by first | exact rfl | decide +kernel)) rfl (.inl ⟨_, rfl⟩) rfl rfl rfl rfl rfl (Src.slice (m := 1) (Rd.blk 0 rfl) (At.all _) rfl (one_of_all rfl)) (by omega) (by omega) ?_ | refine Gt.append tb 10 (by first | exact Wt.none | exact Wt.some rfl rfl (by first | exact rfl | decide +kernel)) rfl (.inl ⟨_, rfl⟩) rfl rfl rfl rfl rfl (Src.slice (m := 1) (Rd.blk 0 rfl) (At.all _) rfl (one_of_all rfl)) (by omega) (by omega) ?_ | refine Gt.append tb 11 (by first | exact Wt.none | exact Wt.some rfl rfl (by first | exact rfl | decide +kernel)) rfl (.inl ⟨_, rfl⟩) rfl rfl rfl rfl rfl (Src.slice (m := 1) (Rd.blk 0 rfl) (At.all _) rfl (one_of_all rfl)) (by omega) (by omega) ?_ | refine Gt.append tb 12 (by first | exact Wt.none | exact Wt.some rfl rfl (by first | exact rfl | decide +kernel)) rfl (.inl ⟨_, rfl⟩) rfl rfl rfl rfl rfl (Src.slice (m := 1) (Rd.blk 0 rfl) (At.all _) rfl (one_of_all rfl)) (by omega) (by omega) ?_)
      intro p2 c2
      rw [show (List.flatMap (fun v : Value => v.cells.toList) [#[Key.val k, Value.int IntKind.i64 n2][0]]) = strs [k] from by unfold strs; rfl, ← strs_append, show acc.length + 1 = (acc ++ [k]).length by simp]
      (repeat (first | refine GK.ro ?_ | (refine GK.box ?_; intro bl) | (refine GK.mkMap ?_; intro bm) | (refine GK.build0 tb ?_; intro bs)))
      (refine GQ.againN ((acc ++ [k], p2, c2, lf.eraseIdx j)) ?_ ?_ ?_ ?_; rotate_left; (first | omega | (dsimp only; omega)); exact (by repeat (first | exact trivial | refine ⟨rfl, ?_⟩)); exact (fun _ s => Sat.sub (by repeat (first | exact SubR.nil | apply SubR.cons 0 rfl | apply SubR.cons 1 rfl | apply SubR.cons 2 rfl | apply SubR.cons 3 rfl | apply SubR.cons 4 rfl | apply SubR.cons 5 rfl | apply SubR.cons 6 rfl | apply SubR.cons 7 rfl | apply SubR.cons 8 rfl | apply SubR.cons 9 rfl | apply SubR.cons 10 rfl | apply SubR.cons 11 rfl | apply SubR.cons 12 rfl | apply SubR.cons 13 rfl | apply SubR.cons 14 rfl | apply SubR.cons 15 rfl)) s))
      · simpa using hpm
    · rw [if_neg hb] at hpm
      (repeat (first | refine GK.ro ?_ | (refine GK.box ?_; intro bl) | (refine GK.mkMap ?_; intro bm) | (refine GK.build0 tb ?_; intro bs)))
      (refine GQ.againN ((acc, p, c, lf.eraseIdx j)) ?_ ?_ ?_ ?_; rotate_left; (first | omega | (dsimp only; omega)); exact (by repeat (first | exact trivial | refine ⟨rfl, ?_⟩)); exact (fun _ s => Sat.sub (by repeat (first | exact SubR.nil | apply SubR.cons 0 rfl | apply SubR.cons 1 rfl | apply SubR.cons 2 rfl | apply SubR.cons 3 rfl | apply SubR.cons 4 rfl | apply SubR.cons 5 rfl | apply SubR.cons 6 rfl | apply SubR.cons 7 rfl | apply SubR.cons 8 rfl | apply SubR.cons 9 rfl | apply SubR.cons 10 rfl | apply SubR.cons 11 rfl | apply SubR.cons 12 rfl | apply SubR.cons 13 rfl | apply SubR.cons 14 rfl | apply SubR.cons 15 rfl)) s))
      · exact hpm
end Go.Re
