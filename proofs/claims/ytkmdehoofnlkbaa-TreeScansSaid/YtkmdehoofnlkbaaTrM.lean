/- A tree of small nodes as plain data: what is put into it and taken out of it, and what it then has. -/
import Derived.Test.YtkmdehoofnlkbaaEnA
namespace Go.Tr
abbrev Ky := List UInt8
abbrev En := Ky × Ky
abbrev lt (a b : Ky) : Bool := Op.bytesLess a b

/-! ### the order of keys -/
theorem lt_irrefl (a : Ky) : lt a a = false := by
  induction a with
  | nil => rfl
  | cons x a ih => simp only [lt, Op.bytesLess] at *; simp [ih]
theorem lt_trans {a b c : Ky} (h : lt a b = true) (k : lt b c = true) : lt a c = true := by
  induction a generalizing b c with
  | nil => cases b with
    | nil => simp [lt, Op.bytesLess] at h
    | cons y b => cases c with
      | nil => simp [lt, Op.bytesLess] at k
      | cons z c => rfl
  | cons x a ih => cases b with
    | nil => simp [lt, Op.bytesLess] at h
    | cons y b => cases c with
      | nil => simp [lt, Op.bytesLess] at k
      | cons z c =>
        simp only [lt, Op.bytesLess, Bool.or_eq_true, decide_eq_true_eq, Bool.and_eq_true, beq_iff_eq] at *
        rcases h with h | ⟨rfl, h⟩ <;> rcases k with k | ⟨rfl, k⟩
        · exact .inl (UInt8.lt_trans h k)
        · exact .inl h
        · exact .inl k
        · exact .inr ⟨rfl, ih h k⟩
theorem lt_tri {a b : Ky} (h : lt a b = false) (k : a ≠ b) : lt b a = true := by
  induction a generalizing b with
  | nil => cases b with
    | nil => exact absurd rfl k
    | cons y b => simp [lt, Op.bytesLess] at h
  | cons x a ih => cases b with
    | nil => rfl
    | cons y b =>
      simp only [lt, Op.bytesLess, Bool.or_eq_false_iff, decide_eq_false_iff_not, Bool.and_eq_false_iff, beq_eq_false_iff_ne] at h
      simp only [lt, Op.bytesLess, Bool.or_eq_true, decide_eq_true_eq, Bool.and_eq_true, beq_iff_eq]
      by_cases e : x = y
      · subst e
        refine .inr ⟨rfl, ih (h.2.resolve_left (by simp)) (by intro e; exact k (by rw [e]))⟩
      · left
        have h1 := h.1
        rcases UInt8.lt_or_lt_of_ne e with q | q
        · exact absurd q h1
        · exact q
theorem lt_asymm {a b : Ky} (h : lt a b = true) : lt b a = false := by
  cases e : lt b a with
  | false => rfl
  | true => have := lt_trans h e; rw [lt_irrefl] at this; cases this
theorem lt_ne {a b : Ky} (h : lt a b = true) : a ≠ b := by
  intro e; rw [e, lt_irrefl] at h; cases h

/-! ### entries that rise -/
abbrev Srt (l : List En) : Prop := l.Pairwise fun a b => lt a.1 b.1 = true
def pos (l : List En) (k : Ky) : Nat := (l.takeWhile fun e => lt e.1 k).length
def hit (l : List En) (k : Ky) : Bool := match l[pos l k]? with
  | some e => e.1 == k
  | none => false
def ins {α : Type} (l : List α) (i : Nat) (x : α) : List α := l.take i ++ x :: l.drop i
def rm {α : Type} (l : List α) (i : Nat) : List α := l.take i ++ l.drop (i + 1)
def lput (l : List En) (e : En) : List En := l.take (pos l e.1) ++ e :: l.drop (pos l e.1 + if hit l e.1 then 1 else 0)
def ldel (l : List En) (k : Ky) : List En := if hit l k then rm l (pos l k) else l
def lget (l : List En) (k : Ky) : Option Ky := if hit l k then (l[pos l k]?).map (·.2) else none

theorem pos_le (l : List En) (k : Ky) : pos l k ≤ l.length := by
  unfold pos; induction l with
  | nil => simp
  | cons a l ih => rw [List.takeWhile_cons]; split <;> simp <;> omega
theorem pos_cons (a : En) (l : List En) (k : Ky) : pos (a :: l) k = if lt a.1 k then pos l k + 1 else 0 := by
  unfold pos; rw [List.takeWhile_cons]; split <;> simp
theorem pos_append {A B : List En} {k : Ky} (h : ∀ a ∈ A, lt a.1 k = true) : pos (A ++ B) k = A.length + pos B k := by
  induction A with
  | nil => simp
  | cons a A ih =>
    rw [List.cons_append, pos_cons, if_pos (h a (by simp)), ih (fun b hb => h b (by simp [hb]))]
    simp; omega
theorem pos_head {b : En} {B : List En} {k : Ky} (h : lt b.1 k = false) : pos (b :: B) k = 0 := by rw [pos_cons, if_neg (by simp [h])]
theorem pos_nil (k : Ky) : pos [] k = 0 := rfl
theorem pos_gt {B : List En} {k : Ky} (h : ∀ b ∈ B, lt k b.1 = true) : pos B k = 0 := by
  cases B with
  | nil => rfl
  | cons b B => exact pos_head (lt_asymm (h b (by simp)))
theorem pos_lt {l : List En} {k : Ky} : ∀ {j : Nat} {e : En}, j < pos l k → l[j]? = some e → lt e.1 k = true := by
  induction l with
  | nil => intro j e h; simp [pos_nil] at h
  | cons a l ih =>
    intro j e h hj
    rw [pos_cons] at h
    split at h
    · rename_i ha
      cases j with
      | zero => simp at hj; subst hj; exact ha
      | succ j => exact ih (j := j) (by omega) (by simpa using hj)
    · omega
theorem pos_ge {l : List En} {k : Ky} {e : En} (h : l[pos l k]? = some e) : lt e.1 k = false := by
  induction l with
  | nil => simp at h
  | cons a l ih =>
    rw [pos_cons] at h
    split at h
    · exact ih (by simpa using h)
    · rename_i ha; simp at h; subst h; simpa using ha
theorem pos_uniq {l : List En} {k : Ky} {i : Nat} (hi : i ≤ l.length) (h1 : ∀ j e, j < i → l[j]? = some e → lt e.1 k = true) (h2 : ∀ e, l[i]? = some e → lt e.1 k = false) : pos l k = i := by
  rcases Nat.lt_trichotomy (pos l k) i with h | h | h
  · have hlt : pos l k < l.length := by omega
    have := pos_ge (List.getElem?_eq_getElem hlt)
    rw [h1 _ _ h (List.getElem?_eq_getElem hlt)] at this; cases this
  · exact h
  · have hlt : i < l.length := by have := pos_le l k; omega
    have := pos_lt h (List.getElem?_eq_getElem hlt)
    rw [h2 _ (List.getElem?_eq_getElem hlt)] at this; cases this
theorem hit_mid {A M B : List En} {k : Ky} (hA : ∀ a ∈ A, lt a.1 k = true) (hB : ∀ b ∈ B, lt k b.1 = true) : pos (A ++ M ++ B) k = A.length + pos M k ∧ hit (A ++ M ++ B) k = hit M k := by
  have h1 : pos (M ++ B) k = pos M k := by
    induction M with
    | nil => rw [List.nil_append, pos_gt hB]; rfl
    | cons m M ih => rw [List.cons_append, pos_cons, pos_cons, ih]
  have h2 : pos (A ++ M ++ B) k = A.length + pos M k := by rw [List.append_assoc, pos_append hA, h1]
  refine ⟨h2, ?_⟩
  unfold hit
  rw [h2, List.append_assoc, List.getElem?_append_right (by omega), Nat.add_sub_cancel_left]
  by_cases h3 : pos M k < M.length
  · rw [List.getElem?_append_left h3]
  · have h4 : M.length = pos M k := by have := pos_le M k; omega
    rw [List.getElem?_append_right (by omega), List.getElem?_eq_none (l := M) (by omega)]
    rw [h4, Nat.sub_self]
    cases B with
    | nil => rfl
    | cons b B =>
      simp only [List.getElem?_cons_zero, beq_eq_false_iff_ne]
      exact fun e => lt_ne (hB b (by simp)) e.symm
theorem lput_mid {A M B : List En} {e : En} (hA : ∀ a ∈ A, lt a.1 e.1 = true) (hB : ∀ b ∈ B, lt e.1 b.1 = true) : lput (A ++ M ++ B) e = A ++ lput M e ++ B := by
  obtain ⟨h1, h2⟩ := hit_mid (M := M) hA hB
  unfold lput
  rw [h1, h2, List.append_assoc, List.take_length_add_append, Nat.add_assoc, List.drop_length_add_append]
  have hp := pos_le M e.1
  rw [List.take_append_of_le_length hp]
  have h3 : pos M e.1 + (if hit M e.1 then 1 else 0) ≤ M.length := by
    split
    · rename_i hh
      unfold hit at hh
      split at hh
      · rename_i x hx; have := (List.getElem?_eq_some_iff.1 hx).1; omega
      · cases hh
    · omega
  rw [List.drop_append_of_le_length h3]
  simp
theorem hit_lt {M : List En} {k : Ky} (h : hit M k = true) : pos M k < M.length := by
  unfold hit at h
  split at h
  · rename_i x hx; exact (List.getElem?_eq_some_iff.1 hx).1
  · cases h
theorem hit_get {M : List En} {k : Ky} (h : hit M k = true) : ∃ v, M[pos M k]? = some (k, v) := by
  unfold hit at h
  split at h
  · rename_i x hx; exact ⟨x.2, by rw [hx]; have := eq_of_beq h; rw [← this]⟩
  · cases h
theorem ldel_mid {A M B : List En} {k : Ky} (hA : ∀ a ∈ A, lt a.1 k = true) (hB : ∀ b ∈ B, lt k b.1 = true) : ldel (A ++ M ++ B) k = A ++ ldel M k ++ B := by
  obtain ⟨h1, h2⟩ := hit_mid (M := M) hA hB
  unfold ldel
  rw [h1, h2]
  split
  · rename_i hh
    have hp := hit_lt hh
    unfold rm
    rw [List.append_assoc, List.take_length_add_append, Nat.add_assoc, List.drop_length_add_append, List.take_append_of_le_length (by omega), List.drop_append_of_le_length (by omega)]
    simp
  · rfl
theorem hit_at {A B : List En} {x : En} (hA : ∀ a ∈ A, lt a.1 x.1 = true) : pos (A ++ x :: B) x.1 = A.length ∧ hit (A ++ x :: B) x.1 = true := by
  have h1 : pos (A ++ x :: B) x.1 = A.length := by rw [pos_append hA, pos_head (lt_irrefl _)]; simp
  refine ⟨h1, ?_⟩
  unfold hit
  rw [h1]
  simp
theorem lput_at {A B : List En} {x e : En} (hx : x.1 = e.1) (hA : ∀ a ∈ A, lt a.1 e.1 = true) : lput (A ++ x :: B) e = A ++ e :: B := by
  obtain ⟨h1, h2⟩ := hit_at (B := B) (x := x) (A := A) (by rw [hx]; exact hA)
  rw [hx] at h1 h2
  unfold lput
  rw [h1, h2]
  simp
theorem ldel_at {A B : List En} {x : En} (hA : ∀ a ∈ A, lt a.1 x.1 = true) : ldel (A ++ x :: B) x.1 = A ++ B := by
  obtain ⟨h1, h2⟩ := hit_at (B := B) (x := x) hA
  unfold ldel rm
  rw [h2, if_pos rfl, h1]
  simp
theorem srt_take {l : List En} (_ : Srt l) (k : Ky) : ∀ a ∈ l.take (pos l k), lt a.1 k = true := by
  intro a ha
  obtain ⟨j, hj⟩ := List.getElem?_of_mem ha
  rw [List.getElem?_take] at hj
  split at hj
  · rename_i h1; exact pos_lt h1 hj
  · cases hj
theorem srt_drop {l : List En} (h : Srt l) {k : Ky} (hh : hit l k = false) : ∀ b ∈ l.drop (pos l k), lt k b.1 = true := by
  cases e : l.drop (pos l k) with
  | nil => simp
  | cons x r =>
    have hx : l[pos l k]? = some x := by
      have := congrArg List.head? e
      simpa [List.head?_drop] using this
    have h1 := pos_ge hx
    have h2 : x.1 ≠ k := by
      intro q
      unfold hit at hh
      rw [hx] at hh
      simp [q] at hh
    have h3 := lt_tri h1 h2
    have hs : Srt (x :: r) := by rw [← e]; exact h.drop
    intro b hb
    rcases List.mem_cons.1 hb with rfl | hb
    · exact h3
    · exact lt_trans h3 (List.rel_of_pairwise_cons hs hb)
theorem srt_drop_hit {l : List En} (h : Srt l) {k : Ky} (hh : hit l k = true) : ∃ x r, l.drop (pos l k) = x :: r ∧ x.1 = k ∧ ∀ b ∈ r, lt k b.1 = true := by
  obtain ⟨v, hv⟩ := hit_get hh
  have hlt := hit_lt hh
  refine ⟨l[pos l k], l.drop (pos l k + 1), List.drop_eq_getElem_cons hlt, ?_, ?_⟩
  · rw [List.getElem?_eq_getElem hlt] at hv; injection hv with hv; rw [hv]
  · have hs : Srt (l.drop (pos l k)) := h.drop
    rw [List.drop_eq_getElem_cons hlt] at hs
    rw [List.getElem?_eq_getElem hlt] at hv; injection hv with hv
    intro b hb
    have := List.rel_of_pairwise_cons hs hb
    rw [hv] at this; exact this
theorem lput_srt {l : List En} (h : Srt l) (e : En) : Srt (lput l e) := by
  unfold lput
  have h1 := srt_take h e.1
  have hb : ∀ b ∈ l.drop (pos l e.1 + if hit l e.1 then 1 else 0), lt e.1 b.1 = true := by
    cases hh : hit l e.1 with
    | true =>
      obtain ⟨x, r, q1, q2, q3⟩ := srt_drop_hit h hh
      have : l.drop (pos l e.1 + 1) = r := by
        rw [show l.drop (pos l e.1 + 1) = (l.drop (pos l e.1)).drop 1 from (List.drop_drop ..).symm, q1]; rfl
      simpa [this] using q3
    | false => simpa using srt_drop h hh
  have hd : Srt (l.drop (pos l e.1 + if hit l e.1 then 1 else 0)) := h.drop
  refine List.pairwise_append.2 ⟨h.take, List.pairwise_cons.2 ⟨hb, hd⟩, ?_⟩
  intro a ha b hb'
  rcases List.mem_cons.1 hb' with rfl | hb'
  · exact h1 a ha
  · exact lt_trans (h1 a ha) (hb b hb')
theorem rm_srt {l : List En} (h : Srt l) (i : Nat) : Srt (rm l i) := by
  unfold rm
  refine h.sublist ?_
  have h1 : (l.take i ++ l.drop (i + 1)).Sublist (l.take i ++ l.drop i) := by
    refine List.Sublist.append (List.Sublist.refl _) ?_
    rw [show l.drop (i + 1) = (l.drop i).drop 1 from (List.drop_drop ..).symm]
    exact List.drop_sublist _ _
  rw [List.take_append_drop] at h1; exact h1
theorem ldel_srt {l : List En} (h : Srt l) (k : Ky) : Srt (ldel l k) := by
  unfold ldel; split
  · exact rm_srt h _
  · exact h
theorem rm_length {α : Type} {l : List α} {i : Nat} (h : i < l.length) : (rm l i).length = l.length - 1 := by simp [rm]; omega
theorem ins_length {α : Type} {l : List α} {i : Nat} (h : i ≤ l.length) (x : α) : (ins l i x).length = l.length + 1 := by simp [ins]; omega
theorem lput_length {l : List En} (e : En) : (lput l e).length = l.length + if hit l e.1 then 0 else 1 := by
  unfold lput
  have := pos_le l e.1
  cases hh : hit l e.1 with
  | true => have := hit_lt hh; simp; omega
  | false => simp; omega
theorem ldel_length {l : List En} (k : Ky) : (ldel l k).length = l.length - if hit l k then 1 else 0 := by
  unfold ldel
  split
  · rename_i hh; rw [rm_length (hit_lt hh)]
  · simp

/-! ### what lies between and beside -/
def iright : List En → List (List En) → List En
  | e :: l, f :: fs => e :: (f ++ iright l fs)
  | _, _ => []
def ileft : List (List En) → List En → List En
  | f :: fs, e :: l => f ++ e :: ileft fs l
  | _, _ => []
def inter : List (List En) → List En → List En
  | f :: fs, l => f ++ iright l fs
  | [], l => l
theorem inter_split {bs : List (List En)} {F : List En} {lb : List En} : ∀ {as : List (List En)} {la : List En}, as.length = la.length → inter (as ++ F :: bs) (la ++ lb) = ileft as la ++ F ++ iright lb bs
  | [], [], _ => by simp [inter, ileft]
  | a :: as, e :: la, h => by
    have ih := inter_split (bs := bs) (F := F) (lb := lb) (as := as) (la := la) (by simpa using h)
    have : iright (e :: (la ++ lb)) (as ++ F :: bs) = e :: inter (as ++ F :: bs) (la ++ lb) := by
      cases hq : as ++ F :: bs with
      | nil => simp at hq
      | cons f fs => rfl
    show a ++ iright (e :: (la ++ lb)) (as ++ F :: bs) = _
    rw [this, ih]
    simp [ileft]
theorem ileft_snoc : ∀ {as : List (List En)} {la : List En} {f : List En} {e : En}, as.length = la.length → ileft (as ++ [f]) (la ++ [e]) = ileft as la ++ f ++ [e]
  | [], [], f, e, _ => by simp [ileft]
  | a :: as, x :: la, f, e, h => by
    have := ileft_snoc (as := as) (la := la) (f := f) (e := e) (by simpa using h)
    simp [ileft, this]
theorem ileft_lt {k : Ky} : ∀ {as : List (List En)} {la : List En}, Srt (ileft as la) → (∀ a ∈ la, lt a.1 k = true) → ∀ x ∈ ileft as la, lt x.1 k = true
  | f :: fs, e :: l, hs, h, x, hx => by
    simp only [ileft] at hs hx
    obtain ⟨h1, h2, h3⟩ := List.pairwise_append.1 hs
    have he := h e (by simp)
    rcases List.mem_append.1 hx with hx | hx
    · exact lt_trans (h3 x hx e (by simp)) he
    · rcases List.mem_cons.1 hx with rfl | hx
      · exact he
      · exact ileft_lt (List.pairwise_cons.1 h2).2 (fun a ha => h a (by simp [ha])) x hx
  | [], _, _, _, x, hx => by simp [ileft] at hx
  | _ :: _, [], _, _, x, hx => by simp [ileft] at hx
theorem iright_gt {k : Ky} : ∀ {lb : List En} {bs : List (List En)}, Srt (iright lb bs) → (∀ b ∈ lb, lt k b.1 = true) → ∀ x ∈ iright lb bs, lt k x.1 = true
  | e :: l, f :: fs, hs, h, x, hx => by
    simp only [iright] at hs hx
    have he := h e (by simp)
    rcases List.mem_cons.1 hx with rfl | hx
    · exact he
    · exact lt_trans he ((List.pairwise_cons.1 hs).1 x hx)
  | [], _, _, _, x, hx => by simp [iright] at hx
  | _ :: _, [], _, _, x, hx => by simp [iright] at hx
theorem iright_sub : ∀ {lb : List En} {bs : List (List En)}, lb.length = bs.length → lb.Sublist (iright lb bs)
  | [], [], _ => by simp [iright]
  | e :: l, f :: fs, h => by
    simp only [iright]
    refine List.Sublist.cons_cons e ?_
    exact (iright_sub (by simpa using h)).trans (List.sublist_append_right _ _)
theorem inter_sub {fs : List (List En)} {l : List En} (h : fs.length = l.length + 1) : l.Sublist (inter fs l) := by
  cases fs with
  | nil => simp at h
  | cons f fs => exact (iright_sub (by simpa using h.symm)).trans (List.sublist_append_right _ _)
theorem iright_length : ∀ {lb : List En} {bs : List (List En)}, lb.length = bs.length → (iright lb bs).length = lb.length + (bs.map List.length).sum
  | [], [], _ => by simp [iright]
  | e :: l, f :: fs, h => by
    have := iright_length (lb := l) (bs := fs) (by simpa using h)
    simp only [iright, List.length_cons, List.length_append, this, List.map_cons, List.sum_cons]
    omega
theorem inter_length {fs : List (List En)} {l : List En} (h : fs.length = l.length + 1) : (inter fs l).length = l.length + (fs.map List.length).sum := by
  cases fs with
  | nil => simp at h
  | cons f fs =>
    simp only [inter, List.length_append, List.map_cons, List.sum_cons]
    rw [iright_length (by simpa using h.symm)]
    omega
end Go.Tr
