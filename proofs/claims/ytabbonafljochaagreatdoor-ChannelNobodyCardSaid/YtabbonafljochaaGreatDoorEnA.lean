/- The engine, part A: heaps, chunks, what a world holds. -/
import Derived.WalkKit
import Derived.WalkSpells
import Derived.WalkLawsBesides
import Derived.Deep.MidRow
namespace Go.Sl

/-- A part of memory. -/
abbrev Hp := Nat → Option Obj
abbrev HProp := Hp → Prop

def emp : Hp := fun _ => none
def cup (h k : Hp) : Hp := fun b => (h b).or (k b)
def apart (h k : Hp) : Prop := ∀ b, h b = none ∨ k b = none
def le (h k : Hp) : Prop := ∀ b o, h b = some o → k b = some o

theorem apart.symm {h k : Hp} (a : apart h k) : apart k h := fun b => (a b).symm
theorem le.refl (h : Hp) : le h h := fun _ _ e => e
theorem le.trans {a b c : Hp} (h : le a b) (k : le b c) : le a c := fun x o e => k x o (h x o e)
theorem le_cup_left (h k : Hp) : le h (cup h k) := fun b o e => by simp [cup, e]
theorem le_cup_right {h k : Hp} (a : apart h k) : le k (cup h k) := fun b o e => by
  rcases a b with x | x
  · simp [cup, x, e]
  · rw [x] at e; cases e
theorem cup_le {h k l : Hp} (a : le h l) (b : le k l) : le (cup h k) l := fun x o e => by
  unfold cup at e
  cases hx : h x with
  | none => rw [hx] at e; exact b x o (by simpa using e)
  | some u => rw [hx] at e; simp at e; subst e; exact a x u hx
theorem apart_emp (h : Hp) : apart emp h := fun _ => .inl rfl
theorem apart_cup {h k l : Hp} (a : apart l h) (b : apart l k) : apart l (cup h k) := fun x => by
  rcases a x with e | e
  · exact .inl e
  · rcases b x with f | f
    · exact .inl f
    · right; simp [cup, e, f]
theorem apart_of_le {h k l : Hp} (a : apart l k) (e : le h k) : apart l h := fun x => by
  rcases a x with f | f
  · exact .inl f
  · right
    cases g : h x with
    | none => rfl
    | some o => rw [e x o g] at f; cases f

/-- The world's memory as a part. -/
def mem (w : World) : Hp := fun b => w.heap[b]?

/-- Chunks held by parts, one each. -/
def Holds : List HProp → List Hp → Prop
  | [], [] => True
  | A :: Γ, h :: hs => A h ∧ Holds Γ hs
  | _, _ => False

/-- The frame and the parts are apart. -/
def Apart : Hp → List Hp → Prop
  | _, [] => True
  | f, h :: hs => apart f h ∧ (∀ k ∈ hs, apart h k) ∧ Apart f hs

def Sat (Γ : List HProp) (hF : Hp) (w : World) : Prop :=
  ∃ hs, Holds Γ hs ∧ Apart hF hs ∧ le hF (mem w) ∧ ∀ h ∈ hs, le h (mem w)

theorem Apart_iff {f : Hp} {hs : List Hp} : Apart f hs ↔ (∀ h ∈ hs, apart f h) ∧ hs.Pairwise apart := by
  induction hs with
  | nil => simp [Apart]
  | cons h hs ih =>
    simp only [Apart, ih, List.pairwise_cons, List.mem_cons, forall_eq_or_imp]
    constructor
    · rintro ⟨a, b, c, d⟩; exact ⟨⟨a, c⟩, b, d⟩
    · rintro ⟨⟨a, c⟩, b, d⟩; exact ⟨a, b, c, d⟩

theorem Holds.length {Γ : List HProp} {hs : List Hp} (h : Holds Γ hs) : Γ.length = hs.length := by
  induction Γ generalizing hs with
  | nil => cases hs with
    | nil => rfl
    | cons => exact h.elim
  | cons A Γ ih => cases hs with
    | nil => exact h.elim
    | cons x hs => simp [ih h.2]

theorem Holds.perm {Γ Γ' : List HProp} (p : Γ.Perm Γ') : ∀ {hs : List Hp}, Holds Γ hs → ∃ hs', Holds Γ' hs' ∧ hs.Perm hs' := by
  induction p with
  | nil => intro hs h; exact ⟨hs, h, .refl _⟩
  | cons A p ih =>
    intro hs h
    cases hs with
    | nil => exact h.elim
    | cons x hs => obtain ⟨hs', a, b⟩ := ih h.2; exact ⟨x :: hs', ⟨h.1, a⟩, b.cons x⟩
  | swap A B Γ =>
    intro hs h
    match hs, h with
    | x :: y :: hs, ⟨h1, h2, h3⟩ => exact ⟨y :: x :: hs, ⟨h2, h1, h3⟩, .swap _ _ _⟩
  | trans p q ih1 ih2 =>
    intro hs h
    obtain ⟨hs1, a1, b1⟩ := ih1 h
    obtain ⟨hs2, a2, b2⟩ := ih2 a1
    exact ⟨hs2, a2, b1.trans b2⟩

theorem Apart.perm {f : Hp} {hs hs' : List Hp} (p : hs.Perm hs') (h : Apart f hs) : Apart f hs' := by
  rw [Apart_iff] at *
  refine ⟨fun k hk => h.1 k (p.mem_iff.2 hk), ?_⟩
  exact (p.pairwise_iff (fun a => a.symm)).1 h.2

theorem Sat.perm {Γ Γ' : List HProp} {hF : Hp} {w : World} (p : Γ.Perm Γ') (h : Sat Γ hF w) : Sat Γ' hF w := by
  obtain ⟨hs, a, b, c, d⟩ := h
  obtain ⟨hs', a', q⟩ := a.perm p
  exact ⟨hs', a', b.perm q, c, fun k hk => d k (q.mem_iff.2 hk)⟩

theorem perm_eraseIdx {A : HProp} : ∀ {Γ : List HProp} {i : Nat}, Γ[i]? = some A → Γ.Perm (A :: Γ.eraseIdx i)
  | B :: Γ, 0, h => by simp at h; subst h; simp
  | B :: Γ, i + 1, h => by
    simp at h
    simp only [List.eraseIdx_cons_succ]
    exact ((perm_eraseIdx h).cons B).trans (.swap _ _ _)
theorem perm_set {A A' : HProp} : ∀ {Γ : List HProp} {i : Nat}, Γ[i]? = some A → (A' :: Γ.eraseIdx i).Perm (Γ.set i A')
  | B :: Γ, 0, h => by simp
  | B :: Γ, i + 1, h => by
    simp at h
    simp only [List.eraseIdx_cons_succ, List.set_cons_succ]
    exact (List.Perm.swap _ _ _).trans ((perm_set h).cons B)

/-- One block, whole. -/
def pt (b : Nat) (o : Obj) : HProp := fun h => h = fun k => if k = b then some o else none
/-- A block of cells. -/
def blk (b : Nat) (t : TypeId) (fz : Nat × Nat) (l : List Value) : HProp := pt b (.cells ⟨l⟩ t fz)

/-- What block b holds, whoever owns it. -/
def Rd (Γ : List HProp) (hF : Hp) (b : Nat) (o : Obj) : Prop := ∀ w, Sat Γ hF w → w.heap[b]? = some o

theorem Sat.head {A : HProp} {Γ : List HProp} {hF : Hp} {w : World} (h : Sat (A :: Γ) hF w) : ∃ k, A k ∧ le k (mem w) := by
  obtain ⟨hs, a, b, c, d⟩ := h
  cases hs with
  | nil => exact a.elim
  | cons x hs => exact ⟨x, a.1, d x (by simp)⟩
theorem Sat.pt_head {b : Nat} {o : Obj} {Γ : List HProp} {hF : Hp} {w : World} (h : Sat (pt b o :: Γ) hF w) : w.heap[b]? = some o := by
  obtain ⟨k, a, d⟩ := h.head
  exact d b o (by rw [a]; simp)
theorem Rd.own {Γ : List HProp} {hF : Hp} {b : Nat} {o : Obj} (i : Nat) (h : Γ[i]? = some (pt b o)) : Rd Γ hF b o :=
  fun _ s => (s.perm (perm_eraseIdx h)).pt_head
theorem Rd.ro {Γ : List HProp} {hF : Hp} {b : Nat} {o : Obj} (h : hF b = some o) : Rd Γ hF b o :=
  fun _ ⟨_, _, _, c, _⟩ => c b o h

/-- A world with the same memory but at block b, which this part owns. -/
theorem Sat.write_head {b : Nat} {o o' : Obj} {Γ : List HProp} {hF : Hp} {w w' : World} (h : Sat (pt b o :: Γ) hF w)
    (hb : w'.heap[b]? = some o') (hne : ∀ k, k ≠ b → w'.heap[k]? = w.heap[k]?) : Sat (pt b o' :: Γ) hF w' := by
  obtain ⟨hs, a, q, c, d⟩ := h
  cases hs with
  | nil => exact a.elim
  | cons x hs =>
    obtain ⟨rfl, a2⟩ := a
    obtain ⟨q1, q2, q3⟩ := q
    have notb : ∀ (k : Hp), apart (fun k => if k = b then some o else none) k → k b = none := fun k hk => (hk b).resolve_left (by simp)
    have keep : ∀ (k : Hp), k b = none → le k (mem w) → le k (mem w') := fun k hk hl y u e => by
      have : y ≠ b := fun e' => by rw [e', hk] at e; cases e
      show w'.heap[y]? = some u
      rw [hne y this]; exact hl y u e
    have ap : ∀ (k : Hp), k b = none → apart (fun k => if k = b then some o' else none) k := fun k hk y => by
      by_cases e : y = b
      · right; rw [e]; exact hk
      · left; simp [e]
    refine ⟨(fun k => if k = b then some o' else none) :: hs, ⟨rfl, a2⟩, ⟨(ap hF (notb _ q1.symm)).symm, fun k hk => ap k (notb k (q2 k hk)), q3⟩,
      keep _ (notb _ q1.symm) c, fun k hk => ?_⟩
    rcases List.mem_cons.1 hk with rfl | hk
    · intro y u e
      by_cases f : y = b
      · subst f; simp at e; subst e; exact hb
      · simp [f] at e
    · exact keep _ (notb k (q2 k hk)) (d k (List.mem_cons_of_mem _ hk))

theorem Sat.write {b : Nat} {o o' : Obj} {Γ : List HProp} {hF : Hp} {w w' : World} (h : Sat Γ hF w) (i : Nat) (hi : Γ[i]? = some (pt b o))
    (hb : w'.heap[b]? = some o') (hne : ∀ k, k ≠ b → w'.heap[k]? = w.heap[k]?) : Sat (Γ.set i (pt b o')) hF w' :=
  ((h.perm (perm_eraseIdx hi)).write_head hb hne).perm (perm_set hi)

/-- Memory has grown. -/
theorem Sat.mono {Γ : List HProp} {hF : Hp} {w w' : World} (h : Sat Γ hF w) (hm : le (mem w) (mem w')) : Sat Γ hF w' := by
  obtain ⟨hs, a, b, c, d⟩ := h
  exact ⟨hs, a, b, c.trans hm, fun k hk => (d k hk).trans hm⟩

theorem mem_lt {w : World} {b : Nat} {o : Obj} (h : mem w b = some o) : b < w.heap.size := by
  unfold mem at h
  exact (Array.getElem?_eq_some_iff.1 h).1

theorem Sat.new {Γ : List HProp} {hF : Hp} {w w' : World} {o : Obj} {b : Nat} (h : Sat Γ hF w) (hm : le (mem w) (mem w')) (hn : w.heap[b]? = none) (hb : w'.heap[b]? = some o) :
    Sat (pt b o :: Γ) hF w' := by
  obtain ⟨hs, a, q, c, d⟩ := h
  have no : ∀ k : Hp, le k (mem w) → k b = none := fun k hk => by
    cases e : k b with
    | none => rfl
    | some u => have := hk b u e; unfold mem at this; rw [hn] at this; cases this
  have ap : ∀ (k : Hp), le k (mem w) → apart (fun k => if k = b then some o else none) k := fun k hk y => by
    by_cases e : y = b
    · right; rw [e]; exact no k hk
    · left; simp [e]
  refine ⟨(fun k => if k = b then some o else none) :: hs, ⟨rfl, a⟩, ⟨(ap hF c).symm, fun k hk => ap k (d k hk), q⟩, c.trans hm, fun k hk => ?_⟩
  rcases List.mem_cons.1 hk with rfl | hk
  · intro y u e
    by_cases f : y = b
    · subst f; simp at e; subst e; exact hb
    · simp [f] at e
  · exact (d k hk).trans hm

theorem le_alloc (w : World) (o : Obj) : le (mem w) (mem (w.alloc o)) := fun b u e => by
  have := mem_lt e
  show (w.heap.push o)[b]? = some u
  rw [Array.getElem?_push, if_neg (by omega)]; exact e
theorem Sat.alloc {Γ : List HProp} {hF : Hp} {w : World} (h : Sat Γ hF w) (o : Obj) : Sat (pt w.heap.size o :: Γ) hF (w.alloc o) :=
  h.new (le_alloc w o) (by simp) (by show (w.heap.push o)[w.heap.size]? = some o; simp)

/-- Let a chunk go. -/
theorem Sat.drop {A : HProp} {Γ : List HProp} {hF : Hp} {w : World} (h : Sat (A :: Γ) hF w) : Sat Γ hF w := by
  obtain ⟨hs, a, q, c, d⟩ := h
  cases hs with
  | nil => exact a.elim
  | cons x hs => exact ⟨hs, a.2, q.2.2, c, fun k hk => d k (List.mem_cons_of_mem _ hk)⟩

/-- A chunk made of others, and of something plain. -/
def exs {X : Type} (φ : X → Prop) (Λ : X → List HProp) : HProp := fun h => ∃ x hs, φ x ∧ Holds (Λ x) hs ∧ hs.Pairwise apart ∧ ∀ b, h b = (hs.foldr cup emp) b

theorem foldr_cup_none {hs : List Hp} {b : Nat} : (hs.foldr cup emp) b = none ↔ ∀ k ∈ hs, k b = none := by
  induction hs with
  | nil => simp [emp]
  | cons x hs ih => simp [cup, Option.or_eq_none_iff, ih]
theorem foldr_cup_le {hs : List Hp} (p : hs.Pairwise apart) : ∀ k ∈ hs, le k (hs.foldr cup emp) := by
  induction hs with
  | nil => simp
  | cons x hs ih =>
    intro k hk b o e
    simp only [List.pairwise_cons] at p
    rcases List.mem_cons.1 hk with rfl | hk
    · simp [cup, e]
    · have h1 := ih p.2 k hk b o e
      have : x b = none := (p.1 k hk b).resolve_right (by rw [e]; simp)
      simp [cup, this, h1]
theorem le_of_foldr {hs : List Hp} {l : Hp} (p : ∀ k ∈ hs, le k l) : le (hs.foldr cup emp) l := by
  induction hs with
  | nil => intro b o e; simp [emp] at e
  | cons x hs ih => exact cup_le (p x (by simp)) (ih fun k hk => p k (by simp [hk]))
theorem apart_foldr {hs : List Hp} {f : Hp} (p : ∀ k ∈ hs, apart f k) : apart f (hs.foldr cup emp) := by
  induction hs with
  | nil => exact fun _ => .inr rfl
  | cons x hs ih => exact apart_cup (p x (by simp)) (ih fun k hk => p k (by simp [hk]))

theorem Holds.append {Γ Δ : List HProp} : ∀ {hs ks : List Hp}, Holds Γ hs → Holds Δ ks → Holds (Γ ++ Δ) (hs ++ ks) := by
  induction Γ with
  | nil => intro hs ks h k; cases hs with
    | nil => exact k
    | cons => exact h.elim
  | cons A Γ ih => intro hs ks h k; cases hs with
    | nil => exact h.elim
    | cons x hs => exact ⟨h.1, ih h.2 k⟩
theorem Holds.split {Γ Δ : List HProp} : ∀ {hs : List Hp}, Holds (Γ ++ Δ) hs → ∃ a b, hs = a ++ b ∧ Holds Γ a ∧ Holds Δ b := by
  induction Γ with
  | nil => intro hs h; exact ⟨[], hs, rfl, trivial, h⟩
  | cons A Γ ih => intro hs h; cases hs with
    | nil => exact h.elim
    | cons x hs => obtain ⟨a, b, rfl, h1, h2⟩ := ih h.2; exact ⟨x :: a, b, rfl, ⟨h.1, h1⟩, h2⟩

theorem Sat.opens {X : Type} {φ : X → Prop} {Λ : X → List HProp} {Γ : List HProp} {hF : Hp} {w : World} (h : Sat (exs φ Λ :: Γ) hF w) : ∃ x, φ x ∧ Sat (Λ x ++ Γ) hF w := by
  obtain ⟨hs, a, q, c, d⟩ := h
  cases hs with
  | nil => exact a.elim
  | cons y hs =>
    obtain ⟨⟨x, ks, hφ, hk, hp, he⟩, a2⟩ := a
    obtain rfl : y = ks.foldr cup emp := funext he
    refine ⟨x, hφ, ks ++ hs, hk.append a2, ?_, c, fun k hk => ?_⟩
    · rw [Apart_iff]
      have q3 := Apart_iff.1 q.2.2
      have hin := foldr_cup_le hp
      refine ⟨fun k hk => ?_, List.pairwise_append.2 ⟨hp, q3.2, fun k hk l hl => ?_⟩⟩
      · rcases List.mem_append.1 hk with hk | hk
        · exact apart_of_le q.1 (hin k hk)
        · exact q3.1 k hk
      · exact (apart_of_le (q.2.1 l hl).symm (hin k hk)).symm
    · rcases List.mem_append.1 hk with hk | hk
      · exact (foldr_cup_le hp k hk).trans (d _ (by simp))
      · exact d k (by simp [hk])

theorem Sat.shut {X : Type} {φ : X → Prop} {Λ : X → List HProp} {Γ : List HProp} {hF : Hp} {w : World} (x : X) (hφ : φ x) (h : Sat (Λ x ++ Γ) hF w) : Sat (exs φ Λ :: Γ) hF w := by
  obtain ⟨hs, a, q, c, d⟩ := h
  obtain ⟨ks, ls, rfl, h1, h2⟩ := a.split
  rw [Apart_iff] at q
  obtain ⟨q1, q2⟩ := q
  obtain ⟨p1, p2, p3⟩ := List.pairwise_append.1 q2
  refine ⟨ks.foldr cup emp :: ls, ⟨⟨x, ks, hφ, h1, p1, fun _ => rfl⟩, h2⟩, ?_, c, fun k hk => ?_⟩
  · refine ⟨apart_foldr fun k hk => q1 k (by simp [hk]), fun l hl => (apart_foldr fun k hk => (p3 k hk l hl).symm).symm, ?_⟩
    rw [Apart_iff]; exact ⟨fun k hk => q1 k (by simp [hk]), p2⟩
  · rcases List.mem_cons.1 hk with rfl | hk
    · exact le_of_foldr fun k hk => d k (by simp [hk])
    · exact d k (by simp [hk])

/-- For a call: the callee's chunks, and all the rest as its frame. -/
theorem Sat.split {Γ Δ : List HProp} {hF : Hp} {w : World} (h : Sat (Γ ++ Δ) hF w) :
    ∃ hF', le hF hF' ∧ Sat Γ hF' w ∧ (∀ w', Sat [] hF' w' → Sat Δ hF w') ∧ ∀ Γ' w', Sat Γ' hF' w' → Sat (Γ' ++ Δ) hF w' := by
  obtain ⟨hs, a, q, c, d⟩ := h
  obtain ⟨ks, ls, rfl, h1, h2⟩ := a.split
  rw [Apart_iff] at q
  obtain ⟨q1, q2⟩ := q
  obtain ⟨p1, p2, p3⟩ := List.pairwise_append.1 q2
  have al : apart hF (ls.foldr cup emp) := apart_foldr fun k hk => q1 k (by simp [hk])
  have key : ∀ Γ' w', Sat Γ' (cup hF (ls.foldr cup emp)) w' → Sat (Γ' ++ Δ) hF w' := by
    rintro Γ' w' ⟨ms, a', q', c', d'⟩
    rw [Apart_iff] at q'
    refine ⟨ms ++ ls, a'.append h2, ?_, (le_cup_left _ _).trans c', fun k hk => ?_⟩
    · rw [Apart_iff]
      refine ⟨fun k hk => ?_, List.pairwise_append.2 ⟨q'.2, p2, fun k hk l hl => ?_⟩⟩
      · rcases List.mem_append.1 hk with hk | hk
        · exact (apart_of_le (q'.1 k hk).symm (le_cup_left _ _)).symm
        · exact q1 k (by simp [hk])
      · exact apart_of_le (q'.1 k hk).symm ((foldr_cup_le p2 l hl).trans (le_cup_right al))
    · rcases List.mem_append.1 hk with hk | hk
      · exact d' k hk
      · exact (foldr_cup_le p2 k hk).trans ((le_cup_right al).trans c')
  refine ⟨cup hF (ls.foldr cup emp), le_cup_left _ _, ⟨ks, h1, ?_, cup_le c (le_of_foldr fun k hk => d k (by simp [hk])), fun k hk => d k (by simp [hk])⟩, fun w' hw' => by simpa using key [] w' hw', key⟩
  rw [Apart_iff]
  refine ⟨fun k hk => (apart_cup (q1 k (by simp [hk])).symm (apart_foldr fun l hl => p3 k hk l hl)).symm, p1⟩

/-- A chunk becomes a part of the frame: from now on it is only read. -/
theorem Sat.freeze {A : HProp} {Γ : List HProp} {hF : Hp} {w : World} (h : Sat (A :: Γ) hF w) :
    ∃ k, A k ∧ apart hF k ∧ Sat Γ (cup hF k) w ∧ ∀ Γ' w', Sat Γ' (cup hF k) w' → Sat (A :: Γ') hF w' := by
  obtain ⟨hs, a, q, c, d⟩ := h
  cases hs with
  | nil => exact a.elim
  | cons x hs =>
    obtain ⟨a1, a2⟩ := a
    obtain ⟨q1, q2, q3⟩ := q
    rw [Apart_iff] at q3
    refine ⟨x, a1, q1, ⟨hs, a2, ?_, cup_le c (d x (by simp)), fun k hk => d k (by simp [hk])⟩, ?_⟩
    · rw [Apart_iff]
      exact ⟨fun k hk => (apart_cup (q3.1 k hk).symm (q2 k hk).symm).symm, q3.2⟩
    · rintro Γ' w' ⟨ms, a', q', c', d'⟩
      rw [Apart_iff] at q'
      refine ⟨x :: ms, ⟨a1, a'⟩, ⟨q1, fun k hk => apart_of_le (q'.1 k hk).symm (le_cup_right q1) |>.symm, ?_⟩, (le_cup_left _ _).trans c', fun k hk => ?_⟩
      · rw [Apart_iff]; exact ⟨fun k hk => (apart_of_le (q'.1 k hk).symm (le_cup_left _ _)).symm, q'.2⟩
      · rcases List.mem_cons.1 hk with rfl | hk
        · exact (le_cup_right q1).trans c'
        · exact d' k hk

end Go.Sl
