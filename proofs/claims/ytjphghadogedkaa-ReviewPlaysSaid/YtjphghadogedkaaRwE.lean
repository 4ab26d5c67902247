/- Who voted, and how: as pairs in the order in which they came. -/
import Derived.Test.YtjphghadogedkaaRwB
import Derived.Test.YtjphghadogedkaaRvQ
set_option linter.unusedSimpArgs false
set_option linter.unusedVariables false
namespace Go.Re
open Go Go.Sl
set_option maxRecDepth 100000
theorem rise_nodup {l : List By} (h : Rise l) : l.Nodup := by
  unfold List.Nodup
  refine List.Pairwise.imp (fun {a b} hab => ?_) h
  intro e
  rw [e] at hab
  exact lt_irr b hab
theorem rise_le {l : List By} (h : Rise l) : l.Pairwise (fun a b => decide (a ≤ b) = true) := h.imp fun {a b} hab => decide_eq_true (Std.le_of_lt hab)
theorem par_rises (l : List By) : Par (rises l) (uniq l) := par_fold l [] [] ⟨List.Pairwise.nil, rfl, fun _ => Iff.rfl⟩
theorem mem_uniq (l : List By) (x : By) : x ∈ uniq l ↔ x ∈ l := by
  have key : ∀ (l ks : List By), x ∈ l.foldl addU ks ↔ x ∈ ks ∨ x ∈ l := by
    intro l
    induction l with
    | nil => intro ks; simp
    | cons s l ih =>
      intro ks
      rw [List.foldl_cons, ih, List.mem_cons]
      have : x ∈ addU ks s ↔ x ∈ ks ∨ x = s := by
        unfold addU; split
        · rename_i h
          exact ⟨.inl, fun h2 => h2.elim id fun e => e ▸ h⟩
        · simp
      rw [this, or_assoc]
  have := key l []
  simpa [uniq] using this
theorem mem_rises (l : List By) (x : By) : x ∈ rises l ↔ x ∈ l := ((par_rises l).2.2 x).trans (mem_uniq l x)
theorem sortS_rises {l : List By} (h : l.Nodup) : sortS l = rises l := by
  have h1 := (par_rises l).1
  have hp : (rises l).Perm l := (List.perm_ext_iff_of_nodup (rise_nodup h1) h).2 (mem_rises l)
  exact sorted_eq ((sortS_perm l).trans hp.symm) (sortS_sorted l) (rise_le h1)
abbrev Pv := List (By × Bool)
def votesOf (P : Pv) : List (By × Int) := P.map fun x => (x.1, yn x.2)
def whoOf (P : Pv) : List By := P.map (·.1)
def howOf (P : Pv) : List Bool := P.map (·.2)
def pset : Pv → By → Bool → Pv
  | [], a, u => [(a, u)]
  | (k, v) :: r, a, u => if a = k then (a, u) :: r else (k, v) :: pset r a u
def pdel : Pv → By → Pv
  | [], _ => []
  | (k, v) :: r, a => if a = k then r else (k, v) :: pdel r a
theorem votes_pset (P : Pv) (u : By) (b : Bool) : vset (votesOf P) u (yn b) = votesOf (pset P u b) := by
  induction P with
  | nil => rfl
  | cons x r ih =>
    obtain ⟨k, v⟩ := x
    show vset ((k, yn v) :: votesOf r) u (yn b) = _
    simp only [vset, pset]
    split
    · rfl
    · rw [ih]; rfl
theorem votes_pdel (P : Pv) (u : By) : vdel (votesOf P) u = votesOf (pdel P u) := by
  induction P with
  | nil => rfl
  | cons x r ih =>
    obtain ⟨k, v⟩ := x
    show vdel ((k, yn v) :: votesOf r) u = _
    simp only [vdel, pdel]
    split
    · rfl
    · rw [ih]; rfl
theorem yn_ne (b : Bool) : yn b ≠ 0 := by cases b <;> decide
theorem vget_votes (P : Pv) (u : By) : vget (votesOf P) u = 0 ↔ u ∉ whoOf P := by
  induction P with
  | nil => simp [votesOf, vget, whoOf]
  | cons x r ih =>
    obtain ⟨k, v⟩ := x
    show vget ((k, yn v) :: votesOf r) u = 0 ↔ u ∉ k :: whoOf r
    simp only [vget]
    split
    · rename_i e; subst e; simp [yn_ne]
    · rename_i e; rw [ih]; simp [e]
/-- Where a user stands. -/
def place (P : Pv) (u : By) : Option Nat := (whoOf P).findIdx? (· == u)
theorem pset_new {P : Pv} {u : By} {b : Bool} (h : u ∉ whoOf P) : pset P u b = P ++ [(u, b)] := by
  induction P with
  | nil => rfl
  | cons x r ih =>
    obtain ⟨k, v⟩ := x
    have h1 : u ≠ k ∧ u ∉ whoOf r := by
      have : u ∉ k :: whoOf r := h
      simpa using this
    simp only [pset, if_neg h1.1, ih h1.2, List.cons_append]
theorem pset_at : ∀ {P : Pv} {u : By} {b : Bool} {i : Nat}, (whoOf P).Nodup → (whoOf P)[i]? = some u → pset P u b = P.set i (u, b)
  | [], u, b, i, _, h => by simp [whoOf] at h
  | (k, v) :: r, u, b, 0, hn, h => by
    have : k = u := by simpa [whoOf] using h
    subst this; simp [pset]
  | (k, v) :: r, u, b, i + 1, hn, h => by
    have h2 : (whoOf r)[i]? = some u := by simpa [whoOf] using h
    have hn2 : k ∉ whoOf r ∧ (whoOf r).Nodup := by
      have : (k :: whoOf r).Nodup := hn
      simpa using this
    have hne : u ≠ k := fun e => hn2.1 (e ▸ List.mem_of_getElem? h2)
    simp only [pset, if_neg hne, List.set_cons_succ, pset_at hn2.2 h2]
theorem pdel_at : ∀ {P : Pv} {u : By} {i : Nat}, (whoOf P).Nodup → (whoOf P)[i]? = some u → pdel P u = P.eraseIdx i
  | [], u, i, _, h => by simp [whoOf] at h
  | (k, v) :: r, u, 0, hn, h => by
    have : k = u := by simpa [whoOf] using h
    subst this; simp [pdel]
  | (k, v) :: r, u, i + 1, hn, h => by
    have h2 : (whoOf r)[i]? = some u := by simpa [whoOf] using h
    have hn2 : k ∉ whoOf r ∧ (whoOf r).Nodup := by
      have : (k :: whoOf r).Nodup := hn
      simpa using this
    have hne : u ≠ k := fun e => hn2.1 (e ▸ List.mem_of_getElem? h2)
    simp only [pdel, if_neg hne, List.eraseIdx_cons_succ, pdel_at hn2.2 h2]
theorem whoOf_set (P : Pv) (i : Nat) (u : By) (b : Bool) (h : (whoOf P)[i]? = some u) : whoOf (P.set i (u, b)) = whoOf P := by
  unfold whoOf at *
  rw [List.map_set]
  obtain ⟨hi, hu⟩ := List.getElem?_eq_some_iff.1 h
  conv => rhs; rw [← List.set_getElem_self hi]
  rw [hu]
theorem howOf_set (P : Pv) (i : Nat) (u : By) (b : Bool) : howOf (P.set i (u, b)) = (howOf P).set i b := by unfold howOf; rw [List.map_set]
theorem whoOf_erase (P : Pv) (i : Nat) : whoOf (P.eraseIdx i) = (whoOf P).eraseIdx i := by unfold whoOf; rw [map_eraseIdx]
theorem howOf_erase (P : Pv) (i : Nat) : howOf (P.eraseIdx i) = (howOf P).eraseIdx i := by unfold howOf; rw [map_eraseIdx]
theorem whoOf_len (P : Pv) : (whoOf P).length = P.length := by unfold whoOf; simp
theorem howOf_len (P : Pv) : (howOf P).length = P.length := by unfold howOf; simp
/-- Who is for it (or against). -/
def side (w : Bool) (P : Pv) : List By := (P.filter fun x => decide (x.2 = w)).map (·.1)
theorem side_nodup {P : Pv} (w : Bool) (h : (whoOf P).Nodup) : (side w P).Nodup := (List.filter_sublist.map _).nodup h
theorem ofM_side {P : Pv} (w : Bool) (h : (whoOf P).Nodup) : ofM (yn w) (votesOf P) = rises (side w P) := by
  have e : keysOf (yn w) (votesOf P) = side w P := by
    unfold keysOf votesOf side
    rw [List.filter_map, List.map_map]
    congr 1
    · congr 1
      funext x
      obtain ⟨k, b⟩ := x
      cases b <;> cases w <;> rfl
  unfold ofM
  rw [e, sortS_rises (side_nodup w h)]
theorem side_take {P : Pv} {j : Nat} {u : By} {b : Bool} (w : Bool) (h : P[j]? = some (u, b)) : side w (P.take (j + 1)) = side w (P.take j) ++ (if b = w then [u] else []) := by
  obtain ⟨hj, he⟩ := List.getElem?_eq_some_iff.1 h
  unfold side
  rw [List.take_succ_eq_append_getElem hj, List.filter_append, List.map_append, he]
  congr 1
  cases b <;> cases w <;> rfl
/-- What holds between acts. -/
structure Sat1 (P : Pv) (author : By) (k : Nat) : Prop where
  nd : (whoOf P).Nodup
  na : author ∉ whoOf P
  len : P.length ≤ k
theorem Sat1.nil {author : By} : Sat1 [] author 0 := ⟨by simp [whoOf], by simp [whoOf], Nat.le_refl _⟩
theorem Sat1.more {P : Pv} {author : By} {k : Nat} (h : Sat1 P author k) : Sat1 P author (k + 1) := ⟨h.nd, h.na, by have := h.len; omega⟩
theorem Sat1.add {P : Pv} {author u : By} {k : Nat} {b : Bool} (h : Sat1 P author k) (hu : u ∉ whoOf P) (hne : u ≠ author) : Sat1 (P ++ [(u, b)]) author (k + 1) := by
  have e : whoOf (P ++ [(u, b)]) = whoOf P ++ [u] := by unfold whoOf; simp
  refine ⟨?_, ?_, by have := h.len; simp; omega⟩
  · rw [e, List.nodup_append]
    exact ⟨h.nd, by simp, fun a ha c hc => by rw [List.mem_singleton.1 hc]; exact fun e => hu (e ▸ ha)⟩
  · rw [e, List.mem_append, List.mem_singleton]
    exact fun h2 => h2.elim h.na fun e => hne e.symm
theorem Sat1.turn {P : Pv} {author u : By} {k i : Nat} {b : Bool} (h : Sat1 P author k) (hu : (whoOf P)[i]? = some u) : Sat1 (P.set i (u, b)) author (k + 1) :=
  ⟨by rw [whoOf_set P i u b hu]; exact h.nd, by rw [whoOf_set P i u b hu]; exact h.na, by have := h.len; simp; omega⟩
theorem Sat1.drop {P : Pv} {author : By} {k : Nat} (i : Nat) (h : Sat1 P author k) : Sat1 (P.eraseIdx i) author (k + 1) :=
  ⟨by rw [whoOf_erase]; exact (List.eraseIdx_sublist _ _).nodup h.nd, by rw [whoOf_erase]; exact fun hm => h.na ((List.eraseIdx_sublist _ _).subset hm), by have := h.len; have := List.length_eraseIdx_le P i; omega⟩
/-- The place, as the law reckons it. -/
def lastI (l : List By) (u : By) : Int := match l.findIdx? (· == u) with
  | some i => (i : Int)
  | none => -1
theorem lastI_cases (l : List By) (u : By) : (lastI l u = -1 ∧ u ∉ l) ∨ ∃ i : Nat, lastI l u = i ∧ l[i]? = some u := by
  unfold lastI
  cases h : l.findIdx? (· == u) with
  | none =>
    left
    refine ⟨rfl, fun hm => ?_⟩
    have := List.findIdx?_eq_none_iff.1 h u hm
    simp at this
  | some i =>
    right
    obtain ⟨hi, h1, _⟩ := List.findIdx?_eq_some_iff_getElem.1 h
    exact ⟨i, rfl, by rw [List.getElem?_eq_getElem hi]; simpa using h1⟩
end Go.Re
