/- Lists of texts: rising, sorted, each once. Plain. -/
import Derived.Test.YtnealcbmgflaaaaEnN
set_option linter.unusedSimpArgs false
set_option linter.unusedVariables false
namespace Go.Ls
open Go Go.Sl
abbrev By := List UInt8
def strs (l : List By) : List Value := l.map str
theorem strs_append (a b : List By) : strs (a ++ b) = strs a ++ strs b := by unfold strs; simp
theorem strs_one (p : By) : strs [p] = [str p] := rfl
theorem strs_nil : strs [] = [] := rfl
theorem strs_len (l : List By) : (strs l).length = l.length := by unfold strs; simp
theorem strs_get {l : List By} {i : Nat} {p : By} (h : l[i]? = some p) : (strs l)[i]? = some (str p) := by unfold strs; simp [h]
theorem strs_cell (l : List By) : ∀ u ∈ strs l, u.oneCell' = true := by unfold strs; simp [str, Value.oneCell']
theorem strs_take (l : List By) (n : Nat) : strs (l.take n) = (strs l).take n := by unfold strs; simp
theorem strs_drop (l : List By) (n : Nat) : strs (l.drop n) = (strs l).drop n := by unfold strs; simp
/-- Alike up to i. -/
def likeTo {α : Type} (l m : List α) (i : Nat) : Prop := ∀ j, j < i → l[j]? = m[j]?
theorem likeTo.zero {α : Type} {l m : List α} : likeTo l m 0 := fun j hj => by omega
theorem likeTo.next {α : Type} {l m : List α} {i : Nat} {a : α} (h : likeTo l m i) (h1 : l[i]? = some a) (h2 : m[i]? = some a) : likeTo l m (i + 1) := fun j hj => by
  rcases Nat.lt_or_ge j i with q | q
  · exact h j q
  · obtain rfl : j = i := by omega
    rw [h1, h2]
theorem likeTo.all {α : Type} {l m : List α} {i : Nat} (h : likeTo l m i) (h1 : l.length = m.length) (hi : l.length ≤ i) : l = m := by
  refine List.ext_getElem? fun j => ?_
  rcases Nat.lt_or_ge j i with q | q
  · exact h j q
  · rw [List.getElem?_eq_none (by omega), List.getElem?_eq_none (by omega)]
theorem unlike_at {α : Type} {l m : List α} {i : Nat} {a b : α} (h1 : l[i]? = some a) (h2 : m[i]? = some b) (h : a ≠ b) : l ≠ m := fun e => by
  subst e; rw [h1] at h2; cases h2; exact h rfl
theorem unlike_len {α : Type} {l m : List α} (h : l.length ≠ m.length) : l ≠ m := fun e => h (by rw [e])
theorem bl_eq : ∀ (x y : By), Op.bytesLess x y = decide (x < y)
  | [], [] => by simp [Op.bytesLess]
  | _ :: _, [] => by simp [Op.bytesLess]
  | [], _ :: _ => by simp [Op.bytesLess]
  | a :: x, b :: y => by
    rw [Op.bytesLess, bl_eq x y, Bool.eq_iff_iff]
    simp [List.cons_lt_cons_iff]
/-- How many are less, from the front. -/
def low (s : By) : List By → Nat
  | [] => 0
  | x :: r => if x < s then low s r + 1 else 0
def withM (l : List By) (s : By) : List By := if l[low s l]? = some s then l else l.take (low s l) ++ [s] ++ l.drop (low s l)
theorem low_le (s : By) : ∀ l : List By, low s l ≤ l.length
  | [] => Nat.le_refl _
  | x :: r => by
    have := low_le s r
    unfold low; split
    · rw [List.length_cons]; omega
    · exact Nat.zero_le _
theorem low_lt {s : By} : ∀ {l : List By} {j : Nat} {x : By}, j < low s l → l[j]? = some x → x < s
  | [], j, x, h, _ => by simp [low] at h
  | y :: r, j, x, h, hx => by
    unfold low at h
    split at h
    · rename_i hy
      cases j with
      | zero => simp at hx; subst hx; exact hy
      | succ j => exact low_lt (s := s) (l := r) (j := j) (by omega) (by simpa using hx)
    · omega
theorem low_at {s : By} : ∀ {l : List By} {x : By}, l[low s l]? = some x → ¬ x < s
  | [], x, h => by simp at h
  | y :: r, x, h => by
    unfold low at h
    split at h
    · exact low_at (l := r) (by simpa using h)
    · rename_i hy
      simp at h; subst h; exact hy
theorem low_uniq {s : By} {l : List By} {k : Nat} (h1 : ∀ j < k, ∀ x, l[j]? = some x → x < s) (hk : k ≤ l.length) (h2 : ∀ x, l[k]? = some x → ¬ x < s) : low s l = k := by
  rcases Nat.lt_trichotomy (low s l) k with h | h | h
  · obtain ⟨x, hx⟩ : ∃ x, l[low s l]? = some x := ⟨_, List.getElem?_eq_getElem (by omega)⟩
    exact absurd (h1 _ h x hx) (low_at hx)
  · exact h
  · have := low_le s l
    obtain ⟨x, hx⟩ : ∃ x, l[k]? = some x := ⟨_, List.getElem?_eq_getElem (by omega)⟩
    exact absurd (low_lt h hx) (h2 x hx)
/-- Keys, each once, in the order in which they came. -/
def addU (ks : List By) (s : By) : List By := if s ∈ ks then ks else ks ++ [s]
def uniq (l : List By) : List By := l.foldl addU []
theorem uniq_snoc (l : List By) (s : By) : uniq (l ++ [s]) = addU (uniq l) s := by simp [uniq]
theorem uniq_le : ∀ (l ks : List By), (l.foldl addU ks).length ≤ ks.length + l.length
  | [], ks => by simp
  | s :: l, ks => by
    have := uniq_le l (addU ks s)
    have h2 : (addU ks s).length ≤ ks.length + 1 := by unfold addU; split <;> simp
    simp only [List.foldl_cons, List.length_cons]; omega
theorem uniq_len (l : List By) : (uniq l).length ≤ l.length := by
  have := uniq_le l []; simpa [uniq] using this
def Rise (l : List By) : Prop := l.Pairwise (· < ·)
theorem lt_irr (a : By) : ¬ a < a := by simp
theorem lt_of_not {a b : By} (h : ¬ a < b) (hne : a ≠ b) : b < a := by
  rcases Std.le_total (a := a) (b := b) with h1 | h1
  · exact absurd (Std.lt_of_le_of_ne h1 hne) h
  · exact Std.lt_of_le_of_ne h1 (Ne.symm hne)
theorem withM_cons (x : By) (r : List By) (s : By) : withM (x :: r) s = if x < s then x :: withM r s else if x = s then x :: r else s :: x :: r := by
  unfold withM
  by_cases h : x < s
  · rw [show low s (x :: r) = low s r + 1 from if_pos h, if_pos h]
    simp only [List.getElem?_cons_succ, List.take_succ_cons, List.drop_succ_cons, List.cons_append]
    split <;> rfl
  · rw [show low s (x :: r) = 0 from if_neg h, if_neg h]
    by_cases h2 : x = s
    · simp [h2]
    · simp [h2]
theorem withM_nil (s : By) : withM [] s = [s] := by simp [withM, low]
theorem mem_withM {s : By} : ∀ (l : List By) (x : By), x ∈ withM l s ↔ x = s ∨ x ∈ l
  | [], x => by simp [withM_nil]
  | y :: r, x => by
    rw [withM_cons]
    split
    · rw [List.mem_cons, mem_withM r x, List.mem_cons]
      constructor
      · rintro (h | h | h) <;> simp [h]
      · rintro (h | h | h) <;> simp [h]
    · split
      · rename_i h; subst h; simp
      · simp
theorem rise_withM {s : By} : ∀ (l : List By), Rise l → Rise (withM l s)
  | [], _ => by rw [withM_nil]; exact List.pairwise_singleton _ _
  | y :: r, h => by
    have h1 := List.pairwise_cons.1 h
    rw [withM_cons]
    split
    · rename_i hy
      refine List.pairwise_cons.2 ⟨fun z hz => ?_, rise_withM r h1.2⟩
      rcases (mem_withM r z).1 hz with rfl | hz
      · exact hy
      · exact h1.1 z hz
    · split
      · exact h
      · rename_i h2 h3
        have hsy := lt_of_not h2 h3
        refine List.pairwise_cons.2 ⟨fun z hz => ?_, h⟩
        rcases List.mem_cons.1 hz with rfl | hz
        · exact hsy
        · exact List.lt_trans hsy (h1.1 z hz)
theorem len_withM {s : By} : ∀ (l : List By), Rise l → (withM l s).length = l.length + (if s ∈ l then 0 else 1)
  | [], _ => by simp [withM_nil]
  | y :: r, h => by
    have h1 := List.pairwise_cons.1 h
    rw [withM_cons]
    split
    · rename_i hy
      have hne : s ≠ y := fun e => lt_irr y (by rw [e] at hy; exact hy)
      rw [List.length_cons, len_withM r h1.2, List.length_cons]
      simp [hne]; omega
    · split
      · rename_i h3; simp [h3]
      · rename_i h2 h3
        have hsy := lt_of_not h2 h3
        have hnr : s ∉ r := fun hm => lt_irr s (List.lt_trans hsy (h1.1 s hm))
        have : s ≠ y := fun e => h3 e.symm
        simp [this, hnr]
/-- A rising list and the keys in their order: the same. -/
def Par (ys ks : List By) : Prop := Rise ys ∧ ys.length = ks.length ∧ ∀ x, x ∈ ys ↔ x ∈ ks
theorem Par.step {ys ks : List By} (h : Par ys ks) (s : By) : Par (withM ys s) (addU ks s) := by
  obtain ⟨h1, h2, h3⟩ := h
  refine ⟨rise_withM _ h1, ?_, fun x => ?_⟩
  · rw [len_withM _ h1]; unfold addU
    by_cases hm : s ∈ ks
    · rw [if_pos ((h3 s).2 hm), if_pos hm]; omega
    · rw [if_neg (fun h => hm ((h3 s).1 h)), if_neg hm]; simp; omega
  · rw [mem_withM]; unfold addU
    split
    · rename_i hm
      rw [h3 x]
      exact ⟨fun h => h.elim (fun e => e ▸ hm) id, .inr⟩
    · rw [List.mem_append, List.mem_singleton, h3 x]; exact Or.comm
def rises (l : List By) : List By := l.foldl withM []
theorem rises_snoc (l : List By) (s : By) : rises (l ++ [s]) = withM (rises l) s := by simp [rises]
theorem par_fold : ∀ (l ys ks : List By), Par ys ks → Par (l.foldl withM ys) (l.foldl addU ks)
  | [], _, _, h => h
  | s :: l, ys, ks, h => par_fold l _ _ (h.step s)
theorem rises_len (l : List By) : (rises l).length = (uniq l).length := (par_fold l [] [] ⟨List.Pairwise.nil, rfl, fun _ => Iff.rfl⟩).2.1
def sortS (l : List By) : List By := l.mergeSort fun x y => decide (x ≤ y)
theorem sortS_len (l : List By) : (sortS l).length = l.length := by unfold sortS; simp
theorem le_total' (a b : By) : (decide (a ≤ b) || decide (b ≤ a)) = true := by
  rcases Std.le_total (a := a) (b := b) with h | h <;> simp [h]
theorem sortS_perm (l : List By) : (sortS l).Perm l := List.mergeSort_perm _ _
theorem sortS_sorted (l : List By) : (sortS l).Pairwise (fun a b => decide (a ≤ b) = true) := List.pairwise_mergeSort (fun a b c h1 h2 => by
  simp only [decide_eq_true_eq] at *; exact Std.le_trans h1 h2) le_total' l
theorem sorted_eq {l m : List By} (h : l.Perm m) (h1 : l.Pairwise (fun a b => decide (a ≤ b) = true)) (h2 : m.Pairwise (fun a b => decide (a ≤ b) = true)) : l = m :=
  h.eq_of_pairwise (fun a b _ _ h1 h2 => by simp only [decide_eq_true_eq] at *; exact Std.le_antisymm h1 h2) h1 h2
theorem sortS_congr {l m : List By} (h : l.Perm m) : sortS l = sortS m := sorted_eq (((sortS_perm l).trans h).trans (sortS_perm m).symm) (sortS_sorted l) (sortS_sorted m)
theorem perm_erase {α : Type} {a : α} : ∀ {l : List α} {i : Nat}, l[i]? = some a → l.Perm (a :: l.eraseIdx i)
  | [], i, h => by simp at h
  | x :: l, 0, h => by simp at h; subst h; exact .refl _
  | x :: l, i + 1, h => ((perm_erase (l := l) (i := i) (by simpa using h)).cons x).trans (.swap _ _ _)
theorem rise_nodup {l : List By} (h : Rise l) : l.Nodup := by
  unfold List.Nodup
  refine List.Pairwise.imp (fun {a b} hab => ?_) h
  intro e
  rw [e] at hab
  exact lt_irr b hab
theorem rise_le {l : List By} (h : Rise l) : l.Pairwise (fun a b => decide (a ≤ b) = true) := h.imp fun {a b} hab => decide_eq_true (Std.le_of_lt hab)
theorem par_rises (l : List By) : Par (rises l) (uniq l) := par_fold l [] [] ⟨List.Pairwise.nil, rfl, fun _ => Iff.rfl⟩
theorem mem_uniq (l : List By) (x : By) : x ∈ uniq l ↔ x ∈ l := by
  have key : ∀ (l ks : List By), x ∈ l.foldl addU ks ↔ x ∈ ks ∨ x ∈ l := by
    intro l
    induction l with
    | nil => intro ks; simp
    | cons s l ih =>
      intro ks
      rw [List.foldl_cons, ih, List.mem_cons]
      have : x ∈ addU ks s ↔ x ∈ ks ∨ x = s := by
        unfold addU; split
        · rename_i h
          exact ⟨.inl, fun h2 => h2.elim id fun e => e ▸ h⟩
        · simp
      rw [this, or_assoc]
  have := key l []
  simpa [uniq] using this
theorem mem_rises (l : List By) (x : By) : x ∈ rises l ↔ x ∈ l := ((par_rises l).2.2 x).trans (mem_uniq l x)
theorem sortS_rises {l : List By} (h : l.Nodup) : sortS l = rises l := by
  have h1 := (par_rises l).1
  have hp : (rises l).Perm l := (List.perm_ext_iff_of_nodup (rise_nodup h1) h).2 (mem_rises l)
  exact sorted_eq ((sortS_perm l).trans hp.symm) (sortS_sorted l) (rise_le h1)
theorem rise_ext {a b : List By} (ha : Rise a) (hb : Rise b) (h : ∀ x, x ∈ a ↔ x ∈ b) : a = b :=
  sorted_eq ((List.perm_ext_iff_of_nodup (rise_nodup ha) (rise_nodup hb)).2 h) (rise_le ha) (rise_le hb)
theorem addU_nodup {l : List By} {u : By} (h : l.Nodup) : (addU l u).Nodup := by
  unfold addU
  split
  · exact h
  · rename_i e
    rw [List.nodup_append]
    exact ⟨h, by simp, fun a ha b hb => by rw [List.mem_singleton.1 hb]; rintro rfl; exact e ha⟩
theorem withM_len (l : List By) (s : By) : (withM l s).length ≤ l.length + 1 := by
  unfold withM
  have := low_le s l
  split
  · omega
  · simp; omega
end Go.Ls
