/- Lists of texts: alike; copied. -/
import Derived.Test.YtjphghadogedkaaEnU
set_option linter.unusedSimpArgs false
set_option linter.unusedVariables false
namespace Go.Re
open Go Go.Sl
abbrev By := List UInt8
def strs (l : List By) : List Value := l.map str
theorem strs_append (a b : List By) : strs (a ++ b) = strs a ++ strs b := by unfold strs; simp
theorem strs_one (p : By) : strs [p] = [str p] := rfl
theorem strs_nil : strs [] = [] := rfl
theorem strs_len (l : List By) : (strs l).length = l.length := by unfold strs; simp
theorem strs_get {l : List By} {i : Nat} {p : By} (h : l[i]? = some p) : (strs l)[i]? = some (str p) := by unfold strs; simp [h]
theorem strs_cell (l : List By) : ∀ u ∈ strs l, u.oneCell' = true := by unfold strs; simp [str, Value.oneCell']
theorem strs_take (l : List By) (n : Nat) : strs (l.take n) = (strs l).take n := by unfold strs; simp
theorem strs_drop (l : List By) (n : Nat) : strs (l.drop n) = (strs l).drop n := by unfold strs; simp
/-- Alike up to i. -/
def likeTo {α : Type} (l m : List α) (i : Nat) : Prop := ∀ j, j < i → l[j]? = m[j]?
theorem likeTo.zero {α : Type} {l m : List α} : likeTo l m 0 := fun j hj => by omega
theorem likeTo.next {α : Type} {l m : List α} {i : Nat} {a : α} (h : likeTo l m i) (h1 : l[i]? = some a) (h2 : m[i]? = some a) : likeTo l m (i + 1) := fun j hj => by
  rcases Nat.lt_or_ge j i with q | q
  · exact h j q
  · obtain rfl : j = i := by omega
    rw [h1, h2]
theorem likeTo.all {α : Type} {l m : List α} {i : Nat} (h : likeTo l m i) (h1 : l.length = m.length) (hi : l.length ≤ i) : l = m := by
  refine List.ext_getElem? fun j => ?_
  rcases Nat.lt_or_ge j i with q | q
  · exact h j q
  · rw [List.getElem?_eq_none (by omega), List.getElem?_eq_none (by omega)]
theorem unlike_at {α : Type} {l m : List α} {i : Nat} {a b : α} (h1 : l[i]? = some a) (h2 : m[i]? = some b) (h : a ≠ b) : l ≠ m := fun e => by
  subst e; rw [h1] at h2; cases h2; exact h rfl
theorem unlike_len {α : Type} {l m : List α} (h : l.length ≠ m.length) : l ≠ m := fun e => h (by rw [e])
set_option maxRecDepth 100000
set_option maxHeartbeats 4000000
attribute [local irreducible] GK GO Yl Wt Ef Hd GH KH wpListIn Code.wpIn toBody roundQ poolOf rs RS YieldOk IterOk VOk row star exs mp lp Sat pt FnOk Rd bodyPost bodyPostM Lv Ret Exit.then Exit.inBlock Exit.noGoto Int.decLt Int.decLe Int.instDecidableEq
attribute [local irreducible] u8s strs likeTo
set_option pp.deepTerms true
set_option pp.maxSteps 1000000
variable {hF H : Hp}
theorem texts_ok {l m : List By} {v1 v2 : Value} (h1 : rs H v1 l.length 1 (strs l)) (h2 : rs H v2 m.length 1 (strs m)) (n1 : l.length ≤ 140737488355328) (n2 : m.length ≤ 140737488355328) :
    FnOk Go.Proofs.Try.prog 12 [v1, v2] [poolOf H] hF (fun v Γ => v = .bool (decide (l = m)) ∧ Γ = [poolOf H]) := by
  obtain ⟨p, c, rfl, hc, hln, hr⟩ := rs.out h1
  obtain ⟨p2, c2, rfl, hc2, hln2, hr2⟩ := rs.out h2
  refine FnOk.intro 26 Go.Proofs.Try.func12 rfl rfl fun w0 => ?_
  (repeat' (first | refine GK.ro ?_ | (refine GK.box ?_; intro bl) | (refine GK.mkMap ?_; intro bm) | (refine GK.build0 tb ?_; intro bs) | (first | refine G.condP rfl (fun hb => ?_) (fun hb => ?_) | refine G.condN rfl (fun hb => ?_) (fun hb => ?_) | refine G.cond rfl (fun hb => ?_) (fun hb => ?_)) | ((fail_if_success refine GL.fork (b := true) rfl rfl ?_ ?_); (fail_if_success refine GL.fork (b := false) rfl rfl ?_ ?_); first | refine GL.forkP rfl rfl (fun hb => ?_) (fun hb => ?_) | refine GL.forkN rfl rfl (fun hb => ?_) (fun hb => ?_) | refine GL.fork rfl rfl (fun hb => ?_) (fun hb => ?_)) | ((fail_if_success refine GL.forkPick (b := true) rfl ?_ ?_); (fail_if_success refine GL.forkPick (b := false) rfl ?_ ?_); refine GL.forkPick rfl (fun hb => ?_) (fun hb => ?_))))
  · refine GQ.fin1 rfl (Rv.tmp rfl) (fun _ s => Sat.sub (by repeat (first | exact SubR.nil | apply SubR.cons 0 rfl | apply SubR.cons 1 rfl | apply SubR.cons 2 rfl | apply SubR.cons 3 rfl | apply SubR.cons 4 rfl | apply SubR.cons 5 rfl | apply SubR.cons 6 rfl | apply SubR.cons 7 rfl | apply SubR.cons 8 rfl | apply SubR.cons 9 rfl | apply SubR.cons 10 rfl | apply SubR.cons 11 rfl | apply SubR.cons 12 rfl | apply SubR.cons 13 rfl | apply SubR.cons 14 rfl | apply SubR.cons 15 rfl)) s) ⟨?_, rfl⟩
    rw [decide_eq_false (unlike_len (by omega))]
  refine GK.weak (fr' := [(0, .slice p l.length c), (1, .slice p2 m.length c2), (5, .int .i64 ((0 : Nat) : Int))]) (Γ' := [poolOf H]) (by repeat (first | exact trivial | refine ⟨rfl, ?_⟩)) (fun _ s => Sat.sub (by repeat (first | exact SubR.nil | apply SubR.cons 0 rfl | apply SubR.cons 1 rfl | apply SubR.cons 2 rfl | apply SubR.cons 3 rfl | apply SubR.cons 4 rfl | apply SubR.cons 5 rfl | apply SubR.cons 6 rfl | apply SubR.cons 7 rfl | apply SubR.cons 8 rfl | apply SubR.cons 9 rfl | apply SubR.cons 10 rfl | apply SubR.cons 11 rfl | apply SubR.cons 12 rfl | apply SubR.cons 13 rfl | apply SubR.cons 14 rfl | apply SubR.cons 15 rfl)) s) (G.loopN (fun i : Nat => l.length - i) (fun i => [(0, .slice p l.length c), (1, .slice p2 m.length c2), (5, .int .i64 (i : Int))]) (fun _ => [poolOf H])
    (fun i => i ≤ l.length ∧ likeTo l m i) (fun i hi k hk => ?_) 0 ⟨Nat.zero_le _, by unfold likeTo; intro j hj; omega⟩)
  obtain ⟨hi, hlk⟩ := hi
  (repeat (first | refine GK.ro ?_ | (refine GK.box ?_; intro bl) | (refine GK.mkMap ?_; intro bm) | (refine GK.build0 tb ?_; intro bs)))
  (first | refine G.condP rfl (fun hb => ?_) (fun hb => ?_) | refine G.condN rfl (fun hb => ?_) (fun hb => ?_) | refine G.cond rfl (fun hb => ?_) (fun hb => ?_))
  · obtain ⟨x, hx⟩ : ∃ x, l[i]? = some x := ⟨_, List.getElem?_eq_getElem (by omega)⟩
    obtain ⟨y, hy⟩ : ∃ y, m[i]? = some y := ⟨_, List.getElem?_eq_getElem (by omega)⟩
    obtain ⟨b1, o1, cs1, et1, fz1, rfl, hb1, hat1⟩ := hr (by omega)
    obtain ⟨b2, o2, cs2, et2, fz2, rfl, hb2, hat2⟩ := hr2 (by omega)
    have hA1 : cs1[o1 + (i : Int).toNat * 1]? = some (str x) := by have := hat1 i _ (strs_get hx); simpa using this
    have hA2 : cs2[o2 + (i : Int).toNat * 1]? = some (str y) := by have := hat2 i _ (strs_get hy); simpa using this
    (repeat (first | refine GK.ro ?_ | (refine GK.box ?_; intro bl) | (refine GK.mkMap ?_; intro bm) | (refine GK.build0 tb ?_; intro bs)))
    refine G.draw [] [poolOf H] (by kernel_rfl) ?_
    ((first | refine GH.to 0 ?_ | refine GH.tos 0 ?_); (first | refine GH.to 1 ?_ | refine GH.tos 1 ?_); (first | refine GH.to 2 ?_ | refine GH.tos 2 ?_); (first | refine GH.to 3 ?_ | refine GH.tos 3 ?_); (first | refine GH.to 4 ?_ | refine GH.tos 4 ?_); (first | refine GH.to 5 ?_ | refine GH.tos 5 ?_); (first | refine GH.to 6 ?_ | refine GH.tos 6 ?_); (first | refine GH.to 7 ?_ | refine GH.tos 7 ?_); (first | refine GH.to 8 ?_ | refine GH.tos 8 ?_))
    refine GH.fin (by kernel_rfl) ?_
    (repeat (first | refine GK.ro ?_ | (refine GK.box ?_; intro bl) | (refine GK.mkMap ?_; intro bm) | (refine GK.build0 tb ?_; intro bs)))
    (first | refine G.condP rfl (fun hb => ?_) (fun hb => ?_) | refine G.condN rfl (fun hb => ?_) (fun hb => ?_) | refine G.cond rfl (fun hb => ?_) (fun hb => ?_))
    · (repeat (first | refine GK.ro ?_ | (refine GK.box ?_; intro bl) | (refine GK.mkMap ?_; intro bm) | (refine GK.build0 tb ?_; intro bs)))
      refine GQ.fin1 rfl (Rv.tmp rfl) (fun _ s => Sat.sub (by repeat (first | exact SubR.nil | apply SubR.cons 0 rfl | apply SubR.cons 1 rfl | apply SubR.cons 2 rfl | apply SubR.cons 3 rfl | apply SubR.cons 4 rfl | apply SubR.cons 5 rfl | apply SubR.cons 6 rfl | apply SubR.cons 7 rfl | apply SubR.cons 8 rfl | apply SubR.cons 9 rfl | apply SubR.cons 10 rfl | apply SubR.cons 11 rfl | apply SubR.cons 12 rfl | apply SubR.cons 13 rfl | apply SubR.cons 14 rfl | apply SubR.cons 15 rfl)) s) ⟨?_, rfl⟩
      rw [decide_eq_false (unlike_at hx hy (by simpa using hb))]
    · have heq : x = y := by simpa using hb
      subst heq
      (repeat (first | refine GK.ro ?_ | (refine GK.box ?_; intro bl) | (refine GK.mkMap ?_; intro bm) | (refine GK.build0 tb ?_; intro bs)))
      (refine GQ.againN (i + 1) ?_ ?_ ?_ ?_; rotate_left; (first | omega | (dsimp only; omega)); exact (by repeat (first | exact trivial | refine ⟨rfl, ?_⟩)); exact (fun _ s => Sat.sub (by repeat (first | exact SubR.nil | apply SubR.cons 0 rfl | apply SubR.cons 1 rfl | apply SubR.cons 2 rfl | apply SubR.cons 3 rfl | apply SubR.cons 4 rfl | apply SubR.cons 5 rfl | apply SubR.cons 6 rfl | apply SubR.cons 7 rfl | apply SubR.cons 8 rfl | apply SubR.cons 9 rfl | apply SubR.cons 10 rfl | apply SubR.cons 11 rfl | apply SubR.cons 12 rfl | apply SubR.cons 13 rfl | apply SubR.cons 14 rfl | apply SubR.cons 15 rfl)) s))
      exact ⟨by omega, hlk.next hx hy⟩
  · (repeat (first | refine GK.ro ?_ | (refine GK.box ?_; intro bl) | (refine GK.mkMap ?_; intro bm) | (refine GK.build0 tb ?_; intro bs)))
    refine GQ.fin1 rfl (Rv.tmp rfl) (fun _ s => Sat.sub (by repeat (first | exact SubR.nil | apply SubR.cons 0 rfl | apply SubR.cons 1 rfl | apply SubR.cons 2 rfl | apply SubR.cons 3 rfl | apply SubR.cons 4 rfl | apply SubR.cons 5 rfl | apply SubR.cons 6 rfl | apply SubR.cons 7 rfl | apply SubR.cons 8 rfl | apply SubR.cons 9 rfl | apply SubR.cons 10 rfl | apply SubR.cons 11 rfl | apply SubR.cons 12 rfl | apply SubR.cons 13 rfl | apply SubR.cons 14 rfl | apply SubR.cons 15 rfl)) s) ⟨?_, rfl⟩
    rw [decide_eq_true (hlk.all (by omega) (by omega))]
theorem clone_ok {l : List By} {v : Value} (h : rs H v l.length 1 (strs l)) (n1 : l.length ≤ 1099511627776) :
    FnOk Go.Proofs.Try.prog 33 [v] [poolOf H] hF (fun v' Γ => Γ = [row v' 9 1 l.length (strs l), poolOf H]) := by
  have h0 := h
  obtain ⟨p, c, rfl, hc, hln, hr⟩ := rs.out h
  refine FnOk.intro 8 Go.Proofs.Try.func33 rfl rfl fun w0 => ?_
  cases p with
  | none =>
    have hl0 : l = [] := by
      rcases Nat.eq_zero_or_pos l.length with q | q
      · exact List.length_eq_zero_iff.1 q
      · obtain ⟨_, _, _, _, _, e, _⟩ := hr q; cases e
    subst hl0
    (repeat (first | refine GK.ro ?_ | (refine GK.box ?_; intro bl) | (refine GK.mkMap ?_; intro bm) | (refine GK.build0 tb ?_; intro bs)))
    refine GQ.fin1 rfl (Rv.tmp rfl) (Γ' := [row (.slice none 0 0) 9 1 0 [], poolOf H]) (fun w s => Sat.row_nil s) ?_
    unfold strs; rfl
  | some a =>
    (repeat (first | refine GK.ro ?_ | (refine GK.box ?_; intro bl) | (refine GK.mkMap ?_; intro bm) | (refine GK.build0 tb ?_; intro bs)))
    refine GL.cons ?_
    refine Gt.append0 tb 0 (by first | exact Wt.none | exact Wt.some rfl rfl (by first | exact rfl | decide +kernel)) rfl (.inl ⟨_, rfl⟩) rfl rfl rfl rfl rfl (RS.src (RS.pool 1 rfl h0) (strs_cell l) hln ⟨_, _, rfl⟩) (by omega) (by omega) ?_
    intro q d
    (repeat (first | refine GK.ro ?_ | (refine GK.box ?_; intro bl) | (refine GK.mkMap ?_; intro bm) | (refine GK.build0 tb ?_; intro bs)))
    exact GQ.fin1 rfl (Rv.tmp rfl) (fun _ s => Sat.sub (by repeat (first | exact SubR.nil | apply SubR.cons 0 rfl | apply SubR.cons 1 rfl | apply SubR.cons 2 rfl | apply SubR.cons 3 rfl | apply SubR.cons 4 rfl | apply SubR.cons 5 rfl | apply SubR.cons 6 rfl | apply SubR.cons 7 rfl | apply SubR.cons 8 rfl | apply SubR.cons 9 rfl | apply SubR.cons 10 rfl | apply SubR.cons 11 rfl | apply SubR.cons 12 rfl | apply SubR.cons 13 rfl | apply SubR.cons 14 rfl | apply SubR.cons 15 rfl)) s) rfl
/-- Where a text is first. -/
def idx (g : By → Bool) (l : List By) : Int := match l.findIdx? g with
  | some i => (i : Int)
  | none => -1
theorem idx_at {g : By → Bool} {l : List By} {i : Nat} {x : By} (h : ∀ j < i, ∀ y, l[j]? = some y → g y = false) (hx : l[i]? = some x) (hg : g x = true) : idx g l = i := by
  have hi := (List.getElem?_eq_some_iff.1 hx).1
  have : l.findIdx? g = some i := by
    rw [List.findIdx?_eq_some_iff_getElem]
    refine ⟨hi, ?_, fun j hj => ?_⟩
    · rw [(List.getElem?_eq_some_iff.1 hx).2]; exact hg
    · have := h j hj _ (List.getElem?_eq_getElem (by omega)); simp [this]
  simp [idx, this]
theorem idx_no {g : By → Bool} {l : List By} (h : ∀ j < l.length, ∀ y, l[j]? = some y → g y = false) : idx g l = -1 := by
  have : l.findIdx? g = none := by
    rw [List.findIdx?_eq_none_iff]
    intro y hy
    obtain ⟨j, hj, rfl⟩ := List.mem_iff_getElem.1 hy
    exact h j hj _ (List.getElem?_eq_getElem hj)
  simp [idx, this]
theorem indexFunc_ok {l : List By} {g : By → Bool} {p : Option Addr} {c : Nat} {X : HProp} {f : FuncId} {cap : Array Value} {e : TypeId} (n1 : l.length ≤ 1099511627776) (hcl : callable Go.Proofs.Try.prog f = true)
    (hg : ∀ s hF', FnOk Go.Proofs.Try.prog f ([str s] ++ cap.toList) [X] hF' (fun v Γ => v = .bool (g s) ∧ Γ = [X])) :
    FnOk Go.Proofs.Try.prog 47 [.slice p l.length c, .func (.func f) #[] cap] [row (.slice p l.length c) e 1 l.length (strs l), X] hF (fun v' Γ => v' = .int .i64 (idx g l) ∧ Γ = [row (.slice p l.length c) e 1 l.length (strs l), X]) := by
  refine FnOk.intro 19 Go.Proofs.Try.func47 rfl rfl fun w0 => ?_
  (repeat (first | refine GK.ro ?_ | (refine GK.box ?_; intro bl) | (refine GK.mkMap ?_; intro bm) | (refine GK.build0 tb ?_; intro bs)))
  refine GK.weak (fr' := [(0, .slice p l.length c), (1, .func (.func f) #[] cap), (7, .int .i64 (l.length : Int)), (8, .int .i64 ((0 : Nat) : Int))]) (Γ' := [row (.slice p l.length c) e 1 l.length (strs l), X]) (by repeat (first | exact trivial | refine ⟨rfl, ?_⟩)) (fun _ s => Sat.sub (by repeat (first | exact SubR.nil | apply SubR.cons 0 rfl | apply SubR.cons 1 rfl | apply SubR.cons 2 rfl | apply SubR.cons 3 rfl | apply SubR.cons 4 rfl | apply SubR.cons 5 rfl | apply SubR.cons 6 rfl | apply SubR.cons 7 rfl | apply SubR.cons 8 rfl | apply SubR.cons 9 rfl | apply SubR.cons 10 rfl | apply SubR.cons 11 rfl | apply SubR.cons 12 rfl | apply SubR.cons 13 rfl | apply SubR.cons 14 rfl | apply SubR.cons 15 rfl)) s) (G.loopN (fun i : Nat => l.length - i) (fun i => [(0, .slice p l.length c), (1, .func (.func f) #[] cap), (7, .int .i64 (l.length : Int)), (8, .int .i64 (i : Int))]) (fun _ => [row (.slice p l.length c) e 1 l.length (strs l), X])
    (fun i => i ≤ l.length ∧ ∀ j < i, ∀ y, l[j]? = some y → g y = false) (fun i hi k hk => ?_) 0 ⟨Nat.zero_le _, fun j hj => by omega⟩)
  obtain ⟨hi, hno⟩ := hi
  (repeat (first | refine GK.ro ?_ | (refine GK.box ?_; intro bl) | (refine GK.mkMap ?_; intro bm) | (refine GK.build0 tb ?_; intro bs)))
  (first | refine G.condP rfl (fun hb => ?_) (fun hb => ?_) | refine G.condN rfl (fun hb => ?_) (fun hb => ?_) | refine G.cond rfl (fun hb => ?_) (fun hb => ?_))
  · obtain ⟨x, hx⟩ : ∃ x, l[i]? = some x := ⟨_, List.getElem?_eq_getElem (by omega)⟩
    have hlt : i < l.length := by omega
    clear hb
    refine GK.rowPtr 0 rfl (by omega) fun b hp => ?_
    subst hp
    have k1 : (strs l)[0 + (i : Int).toNat * 1]? = some (str x) := by rw [show 0 + (i : Int).toNat * 1 = i by omega]; exact strs_get hx
    (repeat (first | refine GK.ro ?_ | (refine GK.box ?_; intro bl) | (refine GK.mkMap ?_; intro bm) | (refine GK.build0 tb ?_; intro bs)))
    refine GL.cons ?_; refine GO.callA (fun hF' hle hH => hg x hF') (by first | exact Wt.none | exact Wt.some rfl rfl (by first | exact rfl | decide +kernel)) hcl rfl rfl (by repeat (first | exact SubR.nil | apply SubR.cons 0 rfl | apply SubR.cons 1 rfl | apply SubR.cons 2 rfl | apply SubR.cons 3 rfl | apply SubR.cons 4 rfl | apply SubR.cons 5 rfl | apply SubR.cons 6 rfl | apply SubR.cons 7 rfl | apply SubR.cons 8 rfl | apply SubR.cons 9 rfl | apply SubR.cons 10 rfl | apply SubR.cons 11 rfl | apply SubR.cons 12 rfl | apply SubR.cons 13 rfl | apply SubR.cons 14 rfl | apply SubR.cons 15 rfl)) ?_
    rintro v Γ' ⟨rfl, rfl⟩
    (repeat (first | refine GK.ro ?_ | (refine GK.box ?_; intro bl) | (refine GK.mkMap ?_; intro bm) | (refine GK.build0 tb ?_; intro bs)))
    (first | refine G.condP rfl (fun hb => ?_) (fun hb => ?_) | refine G.condN rfl (fun hb => ?_) (fun hb => ?_) | refine G.cond rfl (fun hb => ?_) (fun hb => ?_))
    · (repeat (first | refine GK.ro ?_ | (refine GK.box ?_; intro bl) | (refine GK.mkMap ?_; intro bm) | (refine GK.build0 tb ?_; intro bs)))
      refine GQ.fin1 rfl (Rv.tmp rfl) (fun _ s => Sat.sub (by repeat (first | exact SubR.nil | apply SubR.cons 0 rfl | apply SubR.cons 1 rfl | apply SubR.cons 2 rfl | apply SubR.cons 3 rfl | apply SubR.cons 4 rfl | apply SubR.cons 5 rfl | apply SubR.cons 6 rfl | apply SubR.cons 7 rfl | apply SubR.cons 8 rfl | apply SubR.cons 9 rfl | apply SubR.cons 10 rfl | apply SubR.cons 11 rfl | apply SubR.cons 12 rfl | apply SubR.cons 13 rfl | apply SubR.cons 14 rfl | apply SubR.cons 15 rfl)) s) ⟨?_, rfl⟩
      rw [idx_at hno hx hb]
    · (repeat (first | refine GK.ro ?_ | (refine GK.box ?_; intro bl) | (refine GK.mkMap ?_; intro bm) | (refine GK.build0 tb ?_; intro bs)))
      (refine GQ.againN (i + 1) ?_ ?_ ?_ ?_; rotate_left; (first | omega | (dsimp only; omega)); exact (by repeat (first | exact trivial | refine ⟨rfl, ?_⟩)); exact (fun _ s => Sat.sub (by repeat (first | exact SubR.nil | apply SubR.cons 0 rfl | apply SubR.cons 1 rfl | apply SubR.cons 2 rfl | apply SubR.cons 3 rfl | apply SubR.cons 4 rfl | apply SubR.cons 5 rfl | apply SubR.cons 6 rfl | apply SubR.cons 7 rfl | apply SubR.cons 8 rfl | apply SubR.cons 9 rfl | apply SubR.cons 10 rfl | apply SubR.cons 11 rfl | apply SubR.cons 12 rfl | apply SubR.cons 13 rfl | apply SubR.cons 14 rfl | apply SubR.cons 15 rfl)) s))
      refine ⟨by omega, fun j hj y hy => ?_⟩
      rcases Nat.lt_or_ge j i with q | q
      · exact hno j q y hy
      · obtain rfl : j = i := by omega
        rw [hx] at hy; cases hy; exact hb
  · (repeat (first | refine GK.ro ?_ | (refine GK.box ?_; intro bl) | (refine GK.mkMap ?_; intro bm) | (refine GK.build0 tb ?_; intro bs)))
    refine GQ.fin1 rfl (Rv.tmp rfl) (fun _ s => Sat.sub (by repeat (first | exact SubR.nil | apply SubR.cons 0 rfl | apply SubR.cons 1 rfl | apply SubR.cons 2 rfl | apply SubR.cons 3 rfl | apply SubR.cons 4 rfl | apply SubR.cons 5 rfl | apply SubR.cons 6 rfl | apply SubR.cons 7 rfl | apply SubR.cons 8 rfl | apply SubR.cons 9 rfl | apply SubR.cons 10 rfl | apply SubR.cons 11 rfl | apply SubR.cons 12 rfl | apply SubR.cons 13 rfl | apply SubR.cons 14 rfl | apply SubR.cons 15 rfl)) s) ⟨?_, rfl⟩
    rw [idx_no fun j hj => hno j (by omega)]
theorem idx_cases (g : By → Bool) (l : List By) : (idx g l = -1 ∧ (l.filter fun s => !g s) = l) ∨ ∃ i : Nat, idx g l = i ∧ i < l.length ∧ ((l.take (i + 1)).filter fun s => !g s).length = i := by
  cases h : l.findIdx? g with
  | none =>
    left
    refine ⟨by simp [idx, h], ?_⟩
    rw [List.filter_eq_self]
    intro a ha
    have := List.findIdx?_eq_none_iff.1 h a ha
    simp [this]
  | some i =>
    right
    obtain ⟨hi, h1, h2⟩ := List.findIdx?_eq_some_iff_getElem.1 h
    refine ⟨i, by simp [idx, h], hi, ?_⟩
    rw [List.take_succ_eq_append_getElem hi, List.filter_append, List.length_append]
    have e1 : (l.take i).filter (fun s => !g s) = l.take i := by
      rw [List.filter_eq_self]
      intro a ha
      obtain ⟨j, hj, rfl⟩ := List.mem_iff_getElem.1 ha
      have hj' : j < i := by simp at hj; omega
      have := h2 j hj'
      simpa using this
    rw [e1]
    simp [h1]; omega
theorem filter_next {g : By → Bool} {l : List By} {j : Nat} {x : By} (hx : l[j]? = some x) : ((l.take (j + 1)).filter fun s => !g s).length = ((l.take j).filter fun s => !g s).length + (if g x then 0 else 1) := by
  obtain ⟨hj, rfl⟩ := List.getElem?_eq_some_iff.1 hx
  rw [List.take_succ_eq_append_getElem hj, List.filter_append, List.length_append]
  cases h : g l[j] <;> simp [h]
/-- What a function leaves of a list. -/
theorem deleteFunc_ok {l : List By} {g : By → Bool} {p : Option Addr} {c : Nat} {X : HProp} {f : FuncId} {cap : Array Value} (n1 : l.length ≤ 1099511627776) (hcl : callable Go.Proofs.Try.prog f = true)
    (hg : ∀ s hF', FnOk Go.Proofs.Try.prog f ([str s] ++ cap.toList) [X] hF' (fun v Γ => v = .bool (g s) ∧ Γ = [X])) :
    FnOk Go.Proofs.Try.prog 32 [.slice p l.length c, .func (.func f) #[] cap] [row (.slice p l.length c) 9 1 l.length (strs l), X] hF (fun v' Γ => (∃ q d, v' = .slice q (l.filter fun s => !g s).length d) ∧ Γ = [X]) := by
  have hix := idx_cases g l
  refine FnOk.intro 42 Go.Proofs.Try.func32 rfl rfl fun w0 => ?_
  (repeat (first | refine GK.ro ?_ | (refine GK.box ?_; intro bl) | (refine GK.mkMap ?_; intro bm) | (refine GK.build0 tb ?_; intro bs)))
  refine GL.cons ?_; refine GO.callA (fun hF' hle hH => indexFunc_ok n1 hcl hg) (by first | exact Wt.none | exact Wt.some rfl rfl (by first | exact rfl | decide +kernel)) (by kernel_rfl) rfl rfl (by repeat (first | exact SubR.nil | apply SubR.cons 0 rfl | apply SubR.cons 1 rfl | apply SubR.cons 2 rfl | apply SubR.cons 3 rfl | apply SubR.cons 4 rfl | apply SubR.cons 5 rfl | apply SubR.cons 6 rfl | apply SubR.cons 7 rfl | apply SubR.cons 8 rfl | apply SubR.cons 9 rfl | apply SubR.cons 10 rfl | apply SubR.cons 11 rfl | apply SubR.cons 12 rfl | apply SubR.cons 13 rfl | apply SubR.cons 14 rfl | apply SubR.cons 15 rfl)) ?_
  rintro v Γ' ⟨rfl, rfl⟩
  rcases hix with ⟨h1, h2⟩ | ⟨i0, h1, h2, h3⟩
  · rw [h1]
    (repeat (first | refine GK.ro ?_ | (refine GK.box ?_; intro bl) | (refine GK.mkMap ?_; intro bm) | (refine GK.build0 tb ?_; intro bs)))
    refine GQ.fin1 rfl (Rv.tmp rfl) (fun _ s => Sat.sub (by repeat (first | exact SubR.nil | apply SubR.cons 0 rfl | apply SubR.cons 1 rfl | apply SubR.cons 2 rfl | apply SubR.cons 3 rfl | apply SubR.cons 4 rfl | apply SubR.cons 5 rfl | apply SubR.cons 6 rfl | apply SubR.cons 7 rfl | apply SubR.cons 8 rfl | apply SubR.cons 9 rfl | apply SubR.cons 10 rfl | apply SubR.cons 11 rfl | apply SubR.cons 12 rfl | apply SubR.cons 13 rfl | apply SubR.cons 14 rfl | apply SubR.cons 15 rfl)) s) ⟨⟨p, c, ?_⟩, rfl⟩
    rw [h2]
  rw [h1]
  refine GK.openRow 0 rfl (by omega) fun b tail fz hp hnc htl hxl hfr => ?_
  subst hp
  (repeat (first | refine GK.ro ?_ | (refine GK.box ?_; intro bl) | (refine GK.mkMap ?_; intro bm) | (refine GK.build0 tb ?_; intro bs)))
  refine GK.weak (fr' := [(0, .slice (some ⟨b, 0, none⟩) l.length c), (1, .func (.func f) #[] cap), (5, .int .i64 (i0 : Int)), (6, .int .i64 ((i0 + 1 : Nat) : Int))]) (Γ' := [blk b 9 fz (strs l ++ tail), X]) (by repeat (first | exact trivial | refine ⟨rfl, ?_⟩)) (fun _ s => Sat.sub (by repeat (first | exact SubR.nil | apply SubR.cons 0 rfl | apply SubR.cons 1 rfl | apply SubR.cons 2 rfl | apply SubR.cons 3 rfl | apply SubR.cons 4 rfl | apply SubR.cons 5 rfl | apply SubR.cons 6 rfl | apply SubR.cons 7 rfl | apply SubR.cons 8 rfl | apply SubR.cons 9 rfl | apply SubR.cons 10 rfl | apply SubR.cons 11 rfl | apply SubR.cons 12 rfl | apply SubR.cons 13 rfl | apply SubR.cons 14 rfl | apply SubR.cons 15 rfl)) s)
    (G.loopN (X := Nat × Nat × List By) (fun (j, _, _) => l.length - j) (fun (j, k, _) => [(0, .slice (some ⟨b, 0, none⟩) l.length c), (1, .func (.func f) #[] cap), (5, .int .i64 (k : Int)), (6, .int .i64 (j : Int))]) (fun (_, _, m) => [blk b 9 fz (strs m ++ tail), X])
    (fun (j, k, m) => j ≤ l.length ∧ m.length = l.length ∧ k < j ∧ k = ((l.take j).filter fun s => !g s).length ∧ ∀ i, j ≤ i → m[i]? = l[i]?) (fun x hx q hq => ?_) (i0 + 1, i0, l) ⟨by omega, rfl, by omega, h3.symm, fun _ _ => rfl⟩)
  obtain ⟨j, k, m⟩ := x
  obtain ⟨hj, hml, hkj, hk, hm⟩ := hx
  dsimp only at hq
  (repeat (first | refine GK.ro ?_ | (refine GK.box ?_; intro bl) | (refine GK.mkMap ?_; intro bm) | (refine GK.build0 tb ?_; intro bs)))
  (first | refine G.condP rfl (fun hb => ?_) (fun hb => ?_) | refine G.condN rfl (fun hb => ?_) (fun hb => ?_) | refine G.cond rfl (fun hb => ?_) (fun hb => ?_))
  · obtain ⟨x, hx⟩ : ∃ x, l[j]? = some x := ⟨_, List.getElem?_eq_getElem (by omega)⟩
    have hlt : j < l.length := by omega
    clear hb
    have k1 : (strs m ++ tail)[0 + (j : Int).toNat * 1]? = some (str x) := by
      rw [show 0 + (j : Int).toNat * 1 = j by omega, List.getElem?_append_left (by rw [strs_len]; omega)]
      exact strs_get ((hm j (Nat.le_refl _)).trans hx)
    have hfn := filter_next (g := g) hx
    (repeat (first | refine GK.ro ?_ | (refine GK.box ?_; intro bl) | (refine GK.mkMap ?_; intro bm) | (refine GK.build0 tb ?_; intro bs)))
    refine GL.cons ?_; refine GO.callA (fun hF' hle hH => hg x hF') (by first | exact Wt.none | exact Wt.some rfl rfl (by first | exact rfl | decide +kernel)) hcl rfl rfl (by repeat (first | exact SubR.nil | apply SubR.cons 0 rfl | apply SubR.cons 1 rfl | apply SubR.cons 2 rfl | apply SubR.cons 3 rfl | apply SubR.cons 4 rfl | apply SubR.cons 5 rfl | apply SubR.cons 6 rfl | apply SubR.cons 7 rfl | apply SubR.cons 8 rfl | apply SubR.cons 9 rfl | apply SubR.cons 10 rfl | apply SubR.cons 11 rfl | apply SubR.cons 12 rfl | apply SubR.cons 13 rfl | apply SubR.cons 14 rfl | apply SubR.cons 15 rfl)) ?_
    rintro v Γ' ⟨rfl, rfl⟩
    (repeat (first | refine GK.ro ?_ | (refine GK.box ?_; intro bl) | (refine GK.mkMap ?_; intro bm) | (refine GK.build0 tb ?_; intro bs)))
    (first | refine G.condP rfl (fun hb => ?_) (fun hb => ?_) | refine G.condN rfl (fun hb => ?_) (fun hb => ?_) | refine G.cond rfl (fun hb => ?_) (fun hb => ?_))
    · have hgx : g x = false := by simpa using hb
      rw [hgx] at hfn
      (repeat (first | refine GK.ro ?_ | (refine GK.box ?_; intro bl) | (refine GK.mkMap ?_; intro bm) | (refine GK.build0 tb ?_; intro bs)))
      refine GL.cons ?_; refine Gt.storeAt tb 1 (by first | exact Wt.none | exact Wt.some rfl rfl (by first | exact rfl | decide +kernel)) rfl rfl rfl rfl rfl ?_ ?_ ?_
      · simp [strs_len]; omega
      · exact free_sub hfr (Nat.zero_le _) (by simp [strs_len]; omega)
      rw [show (strs m ++ tail).set (0 + (k : Int).toNat * 1) (str x) = strs (m.set k x) ++ tail by
        rw [show 0 + (k : Int).toNat * 1 = k by omega, List.set_append_left _ _ (by rw [strs_len]; omega)]
        unfold strs; rw [List.map_set]]
      (repeat (first | refine GK.ro ?_ | (refine GK.box ?_; intro bl) | (refine GK.mkMap ?_; intro bm) | (refine GK.build0 tb ?_; intro bs)))
      (refine GQ.againN ((j + 1, k + 1, m.set k x)) ?_ ?_ ?_ ?_; rotate_left; (first | omega | (dsimp only; omega)); exact (by repeat (first | exact trivial | refine ⟨rfl, ?_⟩)); exact (fun _ s => Sat.sub (by repeat (first | exact SubR.nil | apply SubR.cons 0 rfl | apply SubR.cons 1 rfl | apply SubR.cons 2 rfl | apply SubR.cons 3 rfl | apply SubR.cons 4 rfl | apply SubR.cons 5 rfl | apply SubR.cons 6 rfl | apply SubR.cons 7 rfl | apply SubR.cons 8 rfl | apply SubR.cons 9 rfl | apply SubR.cons 10 rfl | apply SubR.cons 11 rfl | apply SubR.cons 12 rfl | apply SubR.cons 13 rfl | apply SubR.cons 14 rfl | apply SubR.cons 15 rfl)) s))
      refine ⟨by omega, by simp [hml], by omega, by simp at hfn; omega, fun i hi => ?_⟩
      rw [List.getElem?_set_ne (by omega)]
      exact hm i (by omega)
    · have hgx : g x = true := by simpa using hb
      (repeat (first | refine GK.ro ?_ | (refine GK.box ?_; intro bl) | (refine GK.mkMap ?_; intro bm) | (refine GK.build0 tb ?_; intro bs)))
      (refine GQ.againN ((j + 1, k, m)) ?_ ?_ ?_ ?_; rotate_left; (first | omega | (dsimp only; omega)); exact (by repeat (first | exact trivial | refine ⟨rfl, ?_⟩)); exact (fun _ s => Sat.sub (by repeat (first | exact SubR.nil | apply SubR.cons 0 rfl | apply SubR.cons 1 rfl | apply SubR.cons 2 rfl | apply SubR.cons 3 rfl | apply SubR.cons 4 rfl | apply SubR.cons 5 rfl | apply SubR.cons 6 rfl | apply SubR.cons 7 rfl | apply SubR.cons 8 rfl | apply SubR.cons 9 rfl | apply SubR.cons 10 rfl | apply SubR.cons 11 rfl | apply SubR.cons 12 rfl | apply SubR.cons 13 rfl | apply SubR.cons 14 rfl | apply SubR.cons 15 rfl)) s))
      rw [hgx] at hfn
      refine ⟨by omega, hml, by omega, by simp at hfn; omega, fun i hi => hm i (by omega)⟩
  · have hjl : j = l.length := by omega
    subst hjl
    rw [List.take_length] at hk
    subst hk
    (repeat (first | refine GK.ro ?_ | (refine GK.box ?_; intro bl) | (refine GK.mkMap ?_; intro bm) | (refine GK.build0 tb ?_; intro bs)))
    refine GL.cons ?_; refine GO.clear 0 (zl := [str []]) (by first | exact Wt.none | exact Wt.some rfl rfl (by first | exact rfl | decide +kernel)) rfl (by kernel_rfl) rfl (by decide) rfl (by omega) rfl ?_ ?_ (one_of_all rfl) ?_
    · simp [strs_len]; omega
    · have : (strs m ++ tail).length = (strs l ++ tail).length := by simp [strs_len, hml]
      rw [this]; exact hfr
    (repeat (first | refine GK.ro ?_ | (refine GK.box ?_; intro bl) | (refine GK.mkMap ?_; intro bm) | (refine GK.build0 tb ?_; intro bs)))
    refine GQ.fin1 rfl (Rv.tmp rfl) (fun _ s => Sat.sub (by repeat (first | exact SubR.nil | apply SubR.cons 0 rfl | apply SubR.cons 1 rfl | apply SubR.cons 2 rfl | apply SubR.cons 3 rfl | apply SubR.cons 4 rfl | apply SubR.cons 5 rfl | apply SubR.cons 6 rfl | apply SubR.cons 7 rfl | apply SubR.cons 8 rfl | apply SubR.cons 9 rfl | apply SubR.cons 10 rfl | apply SubR.cons 11 rfl | apply SubR.cons 12 rfl | apply SubR.cons 13 rfl | apply SubR.cons 14 rfl | apply SubR.cons 15 rfl)) s) ⟨⟨some ⟨b, 0, none⟩, c, ?_⟩, rfl⟩
    rw [Int.toNat_natCast]
end Go.Re
