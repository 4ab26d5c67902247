/- What is true of a board between calls. -/
import Derived.Test.YtjphghadogedkaaRwB
set_option linter.unusedSimpArgs false
set_option linter.unusedVariables false
namespace Go.Re
open Go Go.Sl
set_option maxRecDepth 100000
structure Good (L : List Sh) (cl : List Int) (k : Nat) : Prop where
  id : ∀ (i : Nat) (s : Sh), L[i]? = some s → s.pr.id = (i : Int) + 1
  sh : ∀ n : Int, n ∈ cl ↔ ∃ s, atS L n = some s ∧ s.pr.o = false
  one : ∀ (i j : Nat) (s t : Sh), i ≠ j → L[i]? = some s → L[j]? = some t → s.pr.o = true → t.pr.o = true → ¬ (s.pr.c = t.pr.c ∧ s.pr.h = t.pr.h)
  h : ∀ s ∈ L, s.pr.h.length = 32
  len : L.length ≤ k
  cln : cl.length ≤ k
  vt : ∀ s ∈ L, s.votes.length ≤ k ∧ s.talk.length ≤ k
theorem Good.nil : Good [] [] 0 := ⟨by simp, fun n => by simp [atS], by simp, by simp, Nat.le_refl _, Nat.le_refl _, by simp⟩
theorem Good.more {L : List Sh} {cl : List Int} {k : Nat} (g : Good L cl k) : Good L cl (k + 1) :=
  ⟨g.id, g.sh, g.one, g.h, by have := g.len; omega, by have := g.cln; omega, fun s hs => by have := g.vt s hs; omega⟩
theorem atS_eq {L : List Sh} {n : Int} {s : Sh} (h : atS L n = some s) : 1 ≤ n ∧ L[(n - 1).toNat]? = some s := by
  unfold atS at h; split at h
  · cases h
  · exact ⟨by omega, h⟩
theorem atS_mk {L : List Sh} {n : Int} {s : Sh} (h1 : 1 ≤ n) (h : L[(n - 1).toNat]? = some s) : atS L n = some s := by
  unfold atS; rw [if_neg (by omega)]; exact h
theorem Good.push {L : List Sh} {cl : List Int} {k : Nat} (g : Good L cl k) {a c h : By} (hh : h.length = 32) (hno : L.any (clash c h) = false) : Good (L ++ [newSh L a c h]) cl (k + 1) := by
  have hget : ∀ (i : Nat) (s : Sh), (L ++ [newSh L a c h])[i]? = some s → (i < L.length ∧ L[i]? = some s) ∨ (i = L.length ∧ s = newSh L a c h) := fun i s hs => by
    rcases Nat.lt_or_ge i L.length with q | q
    · rw [List.getElem?_append_left q] at hs; exact .inl ⟨q, hs⟩
    · rw [List.getElem?_append_right q] at hs
      have : i - L.length < 1 := by have := (List.getElem?_eq_some_iff.1 hs).1; simpa using this
      obtain rfl : i = L.length := by omega
      simp at hs; exact .inr ⟨rfl, hs.symm⟩
  have hnew : ∀ s ∈ L, s.pr.o = true → ¬ (s.pr.c = c ∧ s.pr.h = h) := fun s hs ho hc => by
    have := List.any_eq_false.1 hno s hs
    simp [clash, ho, hc.1, hc.2] at this
  refine ⟨fun i s hs => ?_, fun n => ?_, fun i j s t hij hi hj ho1 ho2 hc => ?_, fun s hs => ?_, by have := g.len; simp; omega, by have := g.cln; omega, fun s hs => ?_⟩
  · rcases hget i s hs with ⟨_, h1⟩ | ⟨rfl, rfl⟩
    · exact g.id i s h1
    · rfl
  · rw [g.sh n]
    constructor
    · rintro ⟨s, h1, h2⟩
      obtain ⟨q1, q2⟩ := atS_eq h1
      exact ⟨s, atS_mk q1 (by rw [List.getElem?_append_left (List.getElem?_eq_some_iff.1 q2).1]; exact q2), h2⟩
    · rintro ⟨s, h1, h2⟩
      obtain ⟨q1, q2⟩ := atS_eq h1
      rcases hget _ s q2 with ⟨_, h3⟩ | ⟨_, rfl⟩
      · exact ⟨s, atS_mk q1 h3, h2⟩
      · simp [newSh] at h2
  · rcases hget i s hi with ⟨_, h1⟩ | ⟨e1, rfl⟩ <;> rcases hget j t hj with ⟨_, h2⟩ | ⟨e2, rfl⟩
    · exact g.one i j s t hij h1 h2 ho1 ho2 hc
    · exact hnew s (List.mem_of_getElem? h1) ho1 hc
    · exact hnew t (List.mem_of_getElem? h2) ho2 ⟨hc.1.symm, hc.2.symm⟩
    · omega
  · rcases List.mem_append.1 hs with h1 | h1
    · exact g.h s h1
    · rw [List.mem_singleton.1 h1]; exact hh
  · rcases List.mem_append.1 hs with h1 | h1
    · have := g.vt s h1; omega
    · rw [List.mem_singleton.1 h1]; simp [newSh]
theorem openIds_push {L : List Sh} {a c h : By} : openIds (L ++ [newSh L a c h]) = openIds L ++ [(L.length : Int) + 1] := by
  unfold openIds; rw [List.filter_append, List.map_append]; rfl
/-- Votes turn nothing else. -/
theorem Good.votes {L : List Sh} {cl : List Int} {k i : Nat} {s s' : Sh} (g : Good L cl k) (hs : L[i]? = some s) (hp : s'.pr = s.pr) (hv : s'.votes.length ≤ s.votes.length + 1) (ht : s'.talk = s.talk) : Good (L.set i s') cl (k + 1) ∧ openIds (L.set i s') = openIds L := by
  have hil := (List.getElem?_eq_some_iff.1 hs).1
  have hget : ∀ (j : Nat) (t : Sh), (L.set i s')[j]? = some t → ∃ u, L[j]? = some u ∧ t.pr = u.pr ∧ t.votes.length ≤ u.votes.length + 1 ∧ t.talk = u.talk := fun j t h => by
    rw [List.getElem?_set] at h
    split at h
    · rename_i e; subst e; cases h; exact ⟨s, hs, hp, hv, ht⟩
    · exact ⟨t, h, rfl, by omega, rfl⟩
  have hback : ∀ (j : Nat) (u : Sh), L[j]? = some u → ∃ t, (L.set i s')[j]? = some t ∧ t.pr = u.pr := fun j u h => by
    rw [List.getElem?_set]
    split
    · rename_i e; subst e; rw [hs] at h; cases h; exact ⟨s', rfl, hp⟩
    · exact ⟨u, h, rfl⟩
  refine ⟨⟨fun j t h => ?_, fun n => ?_, fun j j2 t t2 hj h1 h2 o1 o2 hc => ?_, fun t ht => ?_, by have := g.len; simp; omega, by have := g.cln; omega, fun t ht => ?_⟩, ?_⟩
  · obtain ⟨u, h1, h2, _⟩ := hget j t h
    rw [h2]; exact g.id j u h1
  · rw [g.sh n]
    constructor
    · rintro ⟨u, h1, h2⟩
      obtain ⟨q1, q2⟩ := atS_eq h1
      obtain ⟨t, h3, h4⟩ := hback _ u q2
      exact ⟨t, atS_mk q1 h3, by rw [h4]; exact h2⟩
    · rintro ⟨t, h1, h2⟩
      obtain ⟨q1, q2⟩ := atS_eq h1
      obtain ⟨u, h3, h4, _⟩ := hget _ t q2
      exact ⟨u, atS_mk q1 h3, by rw [← h4]; exact h2⟩
  · obtain ⟨u, h3, h4, _⟩ := hget j t h1
    obtain ⟨u2, h5, h6, _⟩ := hget j2 t2 h2
    rw [h4] at o1 hc; rw [h6] at o2 hc
    exact g.one j j2 u u2 hj h3 h5 o1 o2 hc
  · obtain ⟨j, hj⟩ := List.getElem?_of_mem ht
    obtain ⟨u, h3, h4, _⟩ := hget j t hj
    rw [h4]; exact g.h u (List.mem_of_getElem? h3)
  · obtain ⟨j, hj⟩ := List.getElem?_of_mem ht
    obtain ⟨u, h3, _, h5, h6⟩ := hget j t hj
    have := g.vt u (List.mem_of_getElem? h3)
    rw [h6]; omega
  · unfold openIds
    have key : ∀ (L : List Sh) (i : Nat), L[i]? = some s → ((L.set i s').filter fun s => s.pr.o).map (fun s => s.pr.id) = (L.filter fun s => s.pr.o).map (fun s => s.pr.id) := by
      intro L
      induction L with
      | nil => intro i h; simp at h
      | cons x r ih =>
        intro i h
        cases i with
        | zero => simp at h; subst h; simp [List.filter_cons, hp]; split <;> simp [hp]
        | succ i =>
          have := ih i (by simpa using h)
          rw [List.set_cons_succ, List.filter_cons, List.filter_cons]
          split <;> simp [this]
    exact key L i hs
def shut (s : Sh) : Sh := { s with pr := { s.pr with o := false } }
/-- One is closed. -/
theorem Good.close {L : List Sh} {cl : List Int} {k : Nat} {n : Int} {s : Sh} (g : Good L cl k) (hs : atS L n = some s) : Good (L.set (n - 1).toNat (shut s)) (cl ++ [n]) (k + 1) ∧ openIds (L.set (n - 1).toNat (shut s)) = sans n (openIds L) := by
  obtain ⟨hn, hi⟩ := atS_eq hs
  have hil := (List.getElem?_eq_some_iff.1 hi).1
  have hget : ∀ (j : Nat) (t : Sh), (L.set (n - 1).toNat (shut s))[j]? = some t → (j = (n - 1).toNat ∧ t = shut s) ∨ (j ≠ (n - 1).toNat ∧ L[j]? = some t) := fun j t h => by
    rw [List.getElem?_set] at h
    split at h
    · rename_i e; subst e; cases h; exact .inl ⟨rfl, rfl⟩
    · rename_i e; exact .inr ⟨fun h => e h.symm, h⟩
  refine ⟨⟨fun j t h => ?_, fun m => ?_, fun j j2 t t2 hj h1 h2 o1 o2 hc => ?_, fun t ht => ?_, by have := g.len; simp; omega, by have := g.cln; simp; omega, fun t ht => ?_⟩, ?_⟩
  · rcases hget j t h with ⟨rfl, rfl⟩ | ⟨_, h1⟩
    · exact g.id _ s hi
    · exact g.id j t h1
  · rw [List.mem_append, List.mem_singleton, g.sh m]
    constructor
    · rintro (⟨u, h1, h2⟩ | rfl)
      · obtain ⟨q1, q2⟩ := atS_eq h1
        by_cases e : (m - 1).toNat = (n - 1).toNat
        · refine ⟨shut s, atS_mk q1 ?_, rfl⟩
          rw [e, List.getElem?_set, if_pos rfl, if_pos hil]
        · refine ⟨u, atS_mk q1 ?_, h2⟩
          rw [List.getElem?_set, if_neg (fun h => e h.symm)]; exact q2
      · refine ⟨shut s, atS_mk hn ?_, rfl⟩
        rw [List.getElem?_set, if_pos rfl, if_pos hil]
    · rintro ⟨t, h1, h2⟩
      obtain ⟨q1, q2⟩ := atS_eq h1
      rcases hget _ t q2 with ⟨e, _⟩ | ⟨_, h3⟩
      · right; omega
      · left; exact ⟨t, atS_mk q1 h3, h2⟩
  · rcases hget j t h1 with ⟨rfl, rfl⟩ | ⟨_, h3⟩
    · cases o1
    · rcases hget j2 t2 h2 with ⟨rfl, rfl⟩ | ⟨_, h5⟩
      · cases o2
      · exact g.one j j2 t t2 hj h3 h5 o1 o2 hc
  · obtain ⟨j, hj⟩ := List.getElem?_of_mem ht
    rcases hget j t hj with ⟨_, rfl⟩ | ⟨_, h3⟩
    · exact g.h s (List.mem_of_getElem? hi)
    · exact g.h t (List.mem_of_getElem? h3)
  · obtain ⟨j, hj⟩ := List.getElem?_of_mem ht
    rcases hget j t hj with ⟨_, rfl⟩ | ⟨_, h3⟩
    · have := g.vt s (List.mem_of_getElem? hi)
      show s.votes.length ≤ _ ∧ s.talk.length ≤ _
      omega
    · have := g.vt t (List.mem_of_getElem? h3); omega
  · unfold openIds sans
    have key : ∀ (L : List Sh) (i o : Nat), (∀ (j : Nat) (t : Sh), L[j]? = some t → t.pr.id = (o : Int) + j + 1) → L[i]? = some s → ((L.set i (shut s)).filter fun s => s.pr.o).map (fun s => s.pr.id) = ((L.filter fun s => s.pr.o).map (fun s => s.pr.id)).filter fun x => !decide (x = (o : Int) + i + 1) := by
      intro L
      induction L with
      | nil => intro i o _ h; simp at h
      | cons x r ih =>
        intro i o hid h
        have hx := hid 0 x rfl
        have hr : ∀ (j : Nat) (t : Sh), r[j]? = some t → t.pr.id = ((o + 1 : Nat) : Int) + j + 1 := fun j t ht => by
          have := hid (j + 1) t (by simpa using ht)
          rw [this]; push_cast; omega
        cases i with
        | zero =>
          simp at h; subst h
          have hrest : ((r.filter fun s => s.pr.o).map (fun s => s.pr.id)).filter (fun y => !decide (y = (o : Int) + (0 : Nat) + 1)) = (r.filter fun s => s.pr.o).map (fun s => s.pr.id) := by
            rw [List.filter_eq_self]
            intro y hy
            obtain ⟨t, ht, rfl⟩ := List.mem_map.1 hy
            obtain ⟨j, hj⟩ := List.getElem?_of_mem (List.mem_filter.1 ht).1
            rw [hr j t hj]; simp; omega
          rw [List.set_cons_zero, List.filter_cons, if_neg (by simp [shut]), List.filter_cons]
          split
          · rw [List.map_cons, List.filter_cons, if_neg (by rw [hx]; simp), hrest]
          · rw [hrest]
        | succ i =>
          have e := ih i (o + 1) hr (by simpa using h)
          rw [show ((o + 1 : Nat) : Int) + (i : Int) + 1 = (o : Int) + ((i + 1 : Nat) : Int) + 1 by push_cast; omega] at e
          rw [List.set_cons_succ, List.filter_cons, List.filter_cons]
          split
          · rw [List.map_cons, e, List.map_cons, List.filter_cons, if_pos (by rw [hx]; simp; omega)]
          · exact e
    have := key L (n - 1).toNat 0 (fun j t h => by rw [g.id j t h]; simp) hi
    rw [this]
    congr 1
    funext x
    rw [show ((0 : Nat) : Int) + ((n - 1).toNat : Int) + 1 = n by omega]
theorem vset_len (l : List (By × Int)) (u : By) (n : Int) : (vset l u n).length ≤ l.length + 1 := by
  induction l with
  | nil => simp [vset]
  | cons x r ih => obtain ⟨k, v⟩ := x; simp only [vset]; split <;> simp <;> omega
theorem vdel_len (l : List (By × Int)) (u : By) : (vdel l u).length ≤ l.length := by
  induction l with
  | nil => simp [vdel]
  | cons x r ih => obtain ⟨k, v⟩ := x; simp only [vdel]; split <;> simp <;> omega
theorem giveM_facts (s : Sh) (u : By) (v : Int) : (giveM s u v).2.pr = s.pr ∧ (giveM s u v).2.votes.length ≤ s.votes.length + 1 ∧ (giveM s u v).2.talk = s.talk ∧ ((giveM s u v).1 = 0 → s.pr.o = true) := by
  have h1 := vset_len s.votes u v
  have h2 := vdel_len s.votes u
  unfold giveM
  cases ho : s.pr.o with
  | false => simp
  | true =>
    simp only [Bool.true_eq_false, if_false]
    split
    · split
      · simp
      · exact ⟨rfl, by show (vdel s.votes u).length ≤ _; omega, rfl, fun _ => trivial⟩
    · split
      · simp
      · exact ⟨rfl, h1, rfl, fun _ => trivial⟩
theorem Good.vote {L : List Sh} {cl : List Int} {k : Nat} (g : Good L cl k) (n v : Int) (u : By) : Good (onM L n fun s => giveM s u v).2 cl (k + 1) ∧ openIds (onM L n fun s => giveM s u v).2 = openIds L ∧ ((onM L n fun s => giveM s u v).1 = 0 → n ∉ cl) := by
  unfold onM
  cases hs : atS L n with
  | none => exact ⟨g.more, rfl, fun h => by cases h⟩
  | some s =>
    obtain ⟨f1, f2, f3, f4⟩ := giveM_facts s u v
    obtain ⟨h1, h2⟩ := g.votes (atS_eq hs).2 f1 f2 f3
    refine ⟨h1, h2, fun h hm => ?_⟩
    obtain ⟨t, ht, ho⟩ := (g.sh n).1 hm
    rw [hs] at ht; cases ht
    rw [f4 h] at ho; cases ho
theorem Good.shuts {L : List Sh} {cl : List Int} {k : Nat} (g : Good L cl k) (n : Int) :
    ((onM L n closeM).1 = 0 ∧ (atS L n).isSome = true ∧ n ∉ cl ∧ Good (onM L n closeM).2 (cl ++ [n]) (k + 1) ∧ openIds (onM L n closeM).2 = sans n (openIds L)) ∨
    ((onM L n closeM).1 ≠ 0 ∧ ((atS L n).isSome = false ∨ n ∈ cl) ∧ (onM L n closeM).2 = L) := by
  unfold onM
  cases hs : atS L n with
  | none => right; dsimp only; exact ⟨by simp, .inl (by simp), rfl⟩
  | some s =>
    cases ho : s.pr.o with
    | false =>
      right
      have : closeM s = (201, s) := if_pos ho
      dsimp only
      rw [this]
      exact ⟨by simp, .inr ((g.sh n).2 ⟨s, hs, ho⟩), set_self (atS_eq hs).2⟩
    | true =>
      left
      have : closeM s = (0, shut s) := if_neg (by rw [ho]; decide)
      dsimp only
      rw [this]
      obtain ⟨h1, h2⟩ := g.close hs
      refine ⟨rfl, rfl, fun hm => ?_, h1, h2⟩
      obtain ⟨t, ht, ho2⟩ := (g.sh n).1 hm
      rw [hs] at ht; cases ht
      rw [ho] at ho2; cases ho2
end Go.Re
