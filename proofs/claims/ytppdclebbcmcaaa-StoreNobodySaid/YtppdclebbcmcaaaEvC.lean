/- The evaluator, part C: memory, by numbers; frames. -/
import Derived.Test.YtppdclebbcmcaaaEvB
set_option linter.unusedSimpArgs false
set_option linter.unusedVariables false
namespace Go.Ev
open Go.Sl
noncomputable section

inductive Ck where
  | row (t : TypeId) (s : Nat) (l : List AV) (fz : Nat)
  | ro (t : TypeId) (l : List AV)
  | map (es : List (AV × AV × Nat)) (clock : Nat)
  | mit (m : Nat) (since : Nat) (seen : List Nat) (last : Nat)
  | mnil
  | sit (l : List Nat) (pos : Nat)
  | loop (st : LoopState) (pd : Option Code) (fn : FuncId) (fr : Tr AV) (N : Nat) (ps : List Tmp) (assign body : Code) (D : Nat)
  | dfr (opened : Bool)
abbrev Mem := Tr Ck
def Ck.own : Ck → Bool
  | .ro _ _ => false
  | _ => true

/-- Slots. -/
def Fk (ρ : Env) (fr : Tr AV) (T : Array Value) : Prop := ∀ t v, fr.get t = some v → ∃ r, T[t]? = some r ∧ ren ρ v = some r
theorem Fk.more {ρ ρ' : Env} {fr : Tr AV} {T : Array Value} (h : Fk ρ fr T) (x : Le ρ ρ') : Fk ρ' fr T := fun t v e => by
  obtain ⟨r, h1, h2⟩ := h t v e; exact ⟨r, h1, ren_le x h2⟩
theorem Fk.ext {ρ ρ' : Env} {fr : Tr AV} {T : Array Value} (h : Fk ρ fr T) (x : Ext ρ ρ') : Fk ρ' fr T := h.more x.le
theorem Fk.set {ρ : Env} {fr fr' : Tr AV} {T : Array Value} {d : Nat} {v : AV} {r : Value} (h : Fk ρ fr T) (hs : fr.Is d v fr') (hd : d < T.size) (hr : ren ρ v = some r) : Fk ρ fr' (T.setIfInBounds d r) := fun t u e => by
  rw [hs] at e
  by_cases q : t = d
  · subst q; rw [if_pos rfl] at e; cases e; exact ⟨r, by simp [hd], hr⟩
  · rw [if_neg q] at e
    obtain ⟨x, h1, h2⟩ := h t u e
    exact ⟨x, by rw [Array.getElem?_setIfInBounds_ne (Ne.symm q)]; exact h1, h2⟩

def renM (ρ : Env) : List (AV × AV × Nat) → Option (List MapEntry)
  | [] => some []
  | (k, v, b) :: l => (ren ρ k).bind fun k' => (ren ρ v).bind fun v' => (renM ρ l).map fun r => ⟨k', v', b⟩ :: r
theorem renM_le {ρ ρ' : Env} (h : Le ρ ρ') : ∀ {l : List (AV × AV × Nat)} {r : List MapEntry}, renM ρ l = some r → renM ρ' l = some r
  | [], r, e => e
  | (k, v, b) :: l, r, e => by
    simp only [renM, Option.bind_eq_some_iff, Option.map_eq_some_iff] at e ⊢
    obtain ⟨x, hx, y, hy, z, hz, rfl⟩ := e
    exact ⟨x, ren_le h hx, y, ren_le h hy, z, renM_le h hz, rfl⟩
theorem renM_ext {ρ ρ' : Env} (h : Ext ρ ρ') {l : List (AV × AV × Nat)} {r : List MapEntry} (e : renM ρ l = some r) : renM ρ' l = some r := renM_le h.le e

/-- Nothing from n to m bears a mark. -/
def frz (fz : Nat × Nat) (n m : Nat) : Prop := fz.2 ≤ fz.1 ∨ fz.2 ≤ n ∨ m ≤ fz.1

def rowIs (ρ : Env) (e : Nat × Nat × Nat) (h : Option Obj) (t s : Nat) (l : List AV) (fz : Nat) : Prop :=
  ∃ pre vs ex fzr, RL ρ l vs ∧ h = some (.cells ⟨pre ++ (vs ++ ex)⟩ t fzr) ∧ pre.length = e.2.1 ∧ e.2.2 * s ≤ ex.length ∧ (l.length < fz ∨ frz fzr (e.2.1 + fz) (pre ++ (vs ++ ex)).length) ∧ allL one l = true
def loopIs (ρ : Env) (h : Option Obj) (st : LoopState) (pd : Option Code) (fn : FuncId) (fr : Tr AV) (N : Nat) (ps : List Tmp) (assign body : Code) (D : Nat) : Prop :=
  ∃ T e fn', T.size = N ∧ Fk ρ fr T ∧ ρ[D]? = some e ∧ h = some (.loop ⟨st, pd, fn', T, ps.toArray, assign, body, e.1⟩)
/-- What block e of the heap is. -/
def Sh (ρ : Env) (hF : Hp) (e : Nat × Nat × Nat) (h : Option Obj) : Ck → Prop
  | .row t s l fz => rowIs ρ e h t s l fz
  | .ro t l => ∃ vs fz, RL ρ l vs ∧ hF e.1 = some (.cells ⟨vs⟩ t fz) ∧ e.2.1 = 0
  | .map es c => ∃ L, renM ρ es = some L ∧ h = some (.map ⟨L⟩ c)
  | .mit m since seen last => ∃ e', ρ[m]? = some e' ∧ h = some (.mapIter (some e'.1) since ⟨seen⟩ last) ∧ e.2.1 = 0
  | .mnil => h = some (.mapIter none 0 #[] 0) ∧ e.2.1 = 0
  | .sit l pos => small l = true ∧ h = some (.stringIter ⟨⟨l.map UInt8.ofNat⟩⟩ pos) ∧ e.2.1 = 0
  | .loop st pd fn fr N ps assign body D => loopIs ρ h st pd fn fr N ps assign body D
  | .dfr b => h = some (.deferred (if b then some [] else none))
theorem Sh.more {ρ ρ' : Env} {hF : Hp} {e : Nat × Nat × Nat} {h : Option Obj} {ck : Ck} (k : Sh ρ hF e h ck) (x : Le ρ ρ') : Sh ρ' hF e h ck := by
  cases ck with
  | row t s l fz => obtain ⟨pre, vs, ex, fzr, h1, h2⟩ := k; exact ⟨pre, vs, ex, fzr, renL_le x h1, h2⟩
  | ro t l => obtain ⟨vs, fz, h1, h2⟩ := k; exact ⟨vs, fz, renL_le x h1, h2⟩
  | map es c => obtain ⟨L, h1, h2⟩ := k; exact ⟨L, renM_le x h1, h2⟩
  | mit m since seen last => obtain ⟨e', h1, h2⟩ := k; exact ⟨e', x.get h1, h2⟩
  | mnil => exact k
  | sit l pos => exact k
  | loop st pd fn fr N ps assign body D => obtain ⟨T, e, fn', h1, h2, h3, h4⟩ := k; exact ⟨T, e, fn', h1, h2.more x, x.get h3, h4⟩
  | dfr b => exact k
theorem Sh.ext {ρ ρ' : Env} {hF : Hp} {e : Nat × Nat × Nat} {h : Option Obj} {ck : Ck} (k : Sh ρ hF e h ck) (x : Ext ρ ρ') : Sh ρ' hF e h ck := k.more x.le

structure Rep (ρ : Env) (M : Mem) (hF : Hp) (w : World) : Prop where
  own : ∀ i ck, M.get i = some ck → ∃ e, ρ[i]? = some e ∧ Sh ρ hF e (w.heap[e.1]?) ck ∧ (ck.own = true → hF e.1 = none)
  inj : ∀ i j ck ck' e e', M.get i = some ck → M.get j = some ck' → ck.own = true → ck'.own = true → ρ[i]? = some e → ρ[j]? = some e' → e.1 = e'.1 → i = j
  frame : le hF (mem w)

theorem Rep.more {ρ ρ' : Env} {M : Mem} {hF : Hp} {w : World} (h : Rep ρ M hF w) (x : Le ρ ρ') : Rep ρ' M hF w where
  own i ck hi := by obtain ⟨e, h1, h2, h3⟩ := h.own i ck hi; exact ⟨e, x.get h1, h2.more x, h3⟩
  inj i j ck ck' e e' hi hj ho ho' he he' hee := by
    obtain ⟨a, h1, _⟩ := h.own i ck hi
    obtain ⟨b, h2, _⟩ := h.own j ck' hj
    have := x.get h1; rw [he] at this; cases this
    have := x.get h2; rw [he'] at this; cases this
    exact h.inj i j ck ck' _ _ hi hj ho ho' h1 h2 hee
  frame := h.frame
theorem Rep.ext {ρ ρ' : Env} {M : Mem} {hF : Hp} {w : World} (h : Rep ρ M hF w) (x : Ext ρ ρ') : Rep ρ' M hF w := h.more x.le
/-- The same memory in a world whose heap has it all. -/
theorem Rep.heap {ρ : Env} {M : Mem} {hF : Hp} {w w' : World} (h : Rep ρ M hF w) (hm : le (mem w) (mem w')) : Rep ρ M hF w' where
  own i ck hi := by
    obtain ⟨e, h1, h2, h3⟩ := h.own i ck hi
    refine ⟨e, h1, ?_, h3⟩
    have key : ∀ o, w.heap[e.1]? = some o → w'.heap[e.1]? = some o := fun o ho => hm e.1 o ho
    cases ck with
    | row t s l fz => obtain ⟨pre, vs, ex, fzr, a, b, c⟩ := h2; exact ⟨pre, vs, ex, fzr, a, key _ b, c⟩
    | ro t l => exact h2
    | map es c => obtain ⟨L, a, b⟩ := h2; exact ⟨L, a, key _ b⟩
    | mit m since seen last => obtain ⟨e', a, b, c⟩ := h2; exact ⟨e', a, key _ b, c⟩
    | mnil => exact ⟨key _ h2.1, h2.2⟩
    | sit l pos => exact ⟨h2.1, key _ h2.2.1, h2.2.2⟩
    | loop st pd fn fr N ps assign body D => obtain ⟨T, e, fn', a, b, c, d⟩ := h2; exact ⟨T, e, fn', a, b, c, key _ d⟩
    | dfr b => exact key _ h2
  inj := h.inj
  frame := h.frame.trans hm

/-- The world but block b. -/
def but (h : Hp) (b : Nat) : Hp := fun k => if k = b then none else h k
theorem sat_but {w : World} {b : Nat} {o : Obj} (h : w.heap[b]? = some o) : Sat [pt b o] (but (mem w) b) w := by
  refine ⟨[fun k => if k = b then some o else none], ⟨rfl, trivial⟩, ?_, ?_, ?_⟩
  · refine ⟨fun k => ?_, by simp, trivial⟩
    by_cases e : k = b
    · left; simp [but, e]
    · right; simp [e]
  · intro k u e
    unfold but at e
    split at e
    · cases e
    · exact e
  · intro k hk
    simp only [List.mem_singleton] at hk
    subst hk
    intro y u e
    by_cases f : y = b
    · subst f; simp at e; subst e; exact h
    · simp [f] at e
/-- Block i of memory turns. -/
theorem Rep.turn {ρ : Env} {M M' : Mem} {hF : Hp} {w w' : World} {i : Nat} {ck ck' : Ck} {e : Nat × Nat × Nat} (h : Rep ρ M hF w) (hi : M.get i = some ck) (ho : ck.own = true) (he : ρ[i]? = some e)
    (hs : M.Is i ck' M') (ho' : ck'.own = true) (hw : le (but (mem w) e.1) (mem w')) (hn : Sh ρ hF e (w'.heap[e.1]?) ck') : Rep ρ M' hF w' := by
  obtain ⟨e1, he1, _, hF1⟩ := h.own i ck hi
  rw [he] at he1; cases he1
  have key : ∀ j cj ej, M.get j = some cj → ρ[j]? = some ej → j ≠ i → cj.own = true → ∀ o, w.heap[ej.1]? = some o → w'.heap[ej.1]? = some o := by
    intro j cj ej hj hej hne hoj o hw1
    refine hw ej.1 o ?_
    unfold but
    rw [if_neg]
    · exact hw1
    · intro q; exact hne (h.inj j i cj ck ej e hj hi hoj ho hej he q)
  refine ⟨fun j cj hj => ?_, fun j k cj cj' ej ek hj hk hoj hok hej hek hee => ?_, fun b o hb => hw b o ?_⟩
  · rw [hs] at hj
    by_cases q : j = i
    · subst q; rw [if_pos rfl] at hj; cases hj; exact ⟨e, he, hn, fun _ => hF1 ho⟩
    · rw [if_neg q] at hj
      obtain ⟨ej, h1, h2, h3⟩ := h.own j cj hj
      refine ⟨ej, h1, ?_, h3⟩
      cases cj with
      | row t s l fz => obtain ⟨pre, vs, ex, fzr, a, b, c⟩ := h2; exact ⟨pre, vs, ex, fzr, a, key j _ ej hj h1 q rfl _ b, c⟩
      | ro t l => exact h2
      | map es c => obtain ⟨L, a, b⟩ := h2; exact ⟨L, a, key j _ ej hj h1 q rfl _ b⟩
      | mit m since seen last => obtain ⟨e', a, b, c⟩ := h2; exact ⟨e', a, key j _ ej hj h1 q rfl _ b, c⟩
      | mnil => exact ⟨key j _ ej hj h1 q rfl _ h2.1, h2.2⟩
      | sit l pos => exact ⟨h2.1, key j _ ej hj h1 q rfl _ h2.2.1, h2.2.2⟩
      | loop st pd fn fr N ps assign body D => obtain ⟨T, e, fn', a, b, c, d⟩ := h2; exact ⟨T, e, fn', a, b, c, key j _ ej hj h1 q rfl _ d⟩
      | dfr b => exact key j _ ej hj h1 q rfl _ h2
  · have old : ∀ j cj, M'.get j = some cj → cj.own = true → ∃ c, M.get j = some c ∧ c.own = true := by
      intro j cj hj hoj
      rw [hs] at hj
      by_cases q : j = i
      · subst q; exact ⟨ck, hi, ho⟩
      · rw [if_neg q] at hj; exact ⟨cj, hj, hoj⟩
    obtain ⟨c1, g1, g2⟩ := old j cj hj hoj
    obtain ⟨c2, g3, g4⟩ := old k cj' hk hok
    exact h.inj j k c1 c2 ej ek g1 g3 g2 g4 hej hek hee
  · unfold but
    rw [if_neg]
    · exact h.frame b o hb
    · intro q; rw [q, hF1 ho] at hb; cases hb
/-- A new block. -/
theorem Rep.addAt {ρ ρ' : Env} {M M' : Mem} {hF : Hp} {w w' : World} {ck : Ck} {e : Nat × Nat × Nat} {n : Nat} (h : Rep ρ M hF w) (x : Le ρ ρ') (he : ρ'[n]? = some e) (hs : M.Is n ck M') (ho : ck.own = true) (hb : w.heap[e.1]? = none)
    (hw : le (mem w) (mem w')) (hn : Sh ρ' hF e (w'.heap[e.1]?) ck) : Rep ρ' M' hF w' := by
  have hFe : hF e.1 = none := by
    cases q : hF e.1 with
    | none => rfl
    | some o => have := h.frame _ _ q; unfold mem at this; rw [hb] at this; cases this
  have live : ∀ j cj ej, M.get j = some cj → ρ[j]? = some ej → cj.own = true → ej.1 ≠ e.1 := by
    intro j cj ej hj hej hoj q
    obtain ⟨e', h1, h2, _⟩ := h.own j cj hj
    rw [hej] at h1; cases h1
    rw [q, hb] at h2
    cases cj with
    | row t s l fz => obtain ⟨pre, vs, ex, fzr, a, b, c⟩ := h2; cases b
    | ro t l => cases hoj
    | map es c => obtain ⟨L, a, b⟩ := h2; cases b
    | mit m since seen last => obtain ⟨e', a, b, c⟩ := h2; cases b
    | mnil => cases h2.1
    | sit l pos => cases h2.2.1
    | loop st pd fn fr N ps assign body D => obtain ⟨T, e, fn', a, b, c, d⟩ := h2; cases d
    | dfr b => cases h2
  have h' := (h.heap hw).more x
  refine ⟨fun j cj hj => ?_, fun j k cj cj' ej ek hj hk hoj hok hej hek hee => ?_, h'.frame⟩
  · rw [hs] at hj
    by_cases q : j = n
    · subst q; rw [if_pos rfl] at hj; cases hj; exact ⟨e, he, hn, fun _ => hFe⟩
    · rw [if_neg q] at hj; exact h'.own j cj hj
  · rw [hs] at hj hk
    by_cases q : j = n
    · subst q
      rw [he] at hej; cases hej
      by_cases q' : k = j
      · exact q'.symm
      · rw [if_neg q'] at hk
        obtain ⟨ek', h1, _⟩ := h.own k cj' hk
        have := x.get h1; rw [hek] at this; cases this
        exact absurd hee.symm (live k cj' ek hk h1 hok)
    · rw [if_neg q] at hj
      obtain ⟨ej', h1, _⟩ := h.own j cj hj
      have := x.get h1; rw [hej] at this; cases this
      by_cases q' : k = n
      · subst q'; rw [he] at hek; cases hek
        exact absurd hee (live j cj ej hj h1 hoj)
      · rw [if_neg q'] at hk
        exact h'.inj j k cj cj' ej ek hj hk hoj hok hej hek hee
theorem Rep.add {ρ : Env} {M M' : Mem} {hF : Hp} {w w' : World} {ck : Ck} {e : Nat × Nat × Nat} (h : Rep ρ M hF w) (hs : M.Is ρ.length ck M') (ho : ck.own = true) (hb : w.heap[e.1]? = none)
    (hw : le (mem w) (mem w')) (hn : Sh (ρ ++ [e]) hF e (w'.heap[e.1]?) ck) : Rep (ρ ++ [e]) M' hF w' := h.addAt (Ext.one ρ e).le (by simp) hs ho hb hw hn
/-- A block that nobody else has gets a number. -/
theorem Rep.put {ρ : Env} {M M' : Mem} {hF : Hp} {w w' : World} {ck : Ck} {e : Nat × Nat × Nat} (h : Rep ρ M hF w) (hs : M.Is ρ.length ck M') (hfree : ∀ j cj ej, M.get j = some cj → ρ[j]? = some ej → cj.own = true → ej.1 ≠ e.1) (hFe : hF e.1 = none)
    (hw : le (but (mem w) e.1) (mem w')) (hn : Sh (ρ ++ [e]) hF e (w'.heap[e.1]?) ck) : Rep (ρ ++ [e]) M' hF w' := by
  have x : Ext ρ (ρ ++ [e]) := Ext.one ρ e
  have he : (ρ ++ [e])[ρ.length]? = some e := by simp
  have hframe : le hF (mem w') := fun b o hb => hw b o (by
    unfold but
    rw [if_neg]
    · exact h.frame b o hb
    · intro q; rw [q, hFe] at hb; cases hb)
  have key : ∀ j cj ej, M.get j = some cj → ρ[j]? = some ej → cj.own = true → ∀ o, w.heap[ej.1]? = some o → w'.heap[ej.1]? = some o := by
    intro j cj ej hj hej hoj o hw1
    refine hw ej.1 o ?_
    unfold but
    rw [if_neg (hfree j cj ej hj hej hoj)]; exact hw1
  refine ⟨fun j cj hj => ?_, fun j k cj cj' ej ek hj hk hoj hok hej hek hee => ?_, hframe⟩
  · rw [hs] at hj
    by_cases q : j = ρ.length
    · subst q; rw [if_pos rfl] at hj; cases hj; exact ⟨e, he, hn, fun _ => hFe⟩
    · rw [if_neg q] at hj
      obtain ⟨ej, h1, h2, h3⟩ := h.own j cj hj
      refine ⟨ej, x.get h1, ?_, h3⟩
      refine Sh.ext ?_ x
      cases cj with
      | row t s l fz => obtain ⟨pre, vs, ex, fzr, a, b, c⟩ := h2; exact ⟨pre, vs, ex, fzr, a, key j _ ej hj h1 rfl _ b, c⟩
      | ro t l => exact h2
      | map es c => obtain ⟨L, a, b⟩ := h2; exact ⟨L, a, key j _ ej hj h1 rfl _ b⟩
      | mit m since seen last => obtain ⟨e', a, b, c⟩ := h2; exact ⟨e', a, key j _ ej hj h1 rfl _ b, c⟩
      | mnil => exact ⟨key j _ ej hj h1 rfl _ h2.1, h2.2⟩
      | sit l pos => exact ⟨h2.1, key j _ ej hj h1 rfl _ h2.2.1, h2.2.2⟩
      | loop st pd fn fr N ps assign body D => obtain ⟨T, e, fn', a, b, c, d⟩ := h2; exact ⟨T, e, fn', a, b, c, key j _ ej hj h1 rfl _ d⟩
      | dfr b => exact key j _ ej hj h1 rfl _ h2
  · rw [hs] at hj hk
    by_cases q : j = ρ.length
    · subst q
      rw [he] at hej; cases hej
      by_cases q' : k = ρ.length
      · exact q'.symm
      · rw [if_neg q'] at hk
        obtain ⟨ek', h1, _⟩ := h.own k cj' hk
        have := x.get h1; rw [hek] at this; cases this
        exact absurd hee.symm (hfree k cj' ek hk h1 hok)
    · rw [if_neg q] at hj
      obtain ⟨ej', h1, _⟩ := h.own j cj hj
      have := x.get h1; rw [hej] at this; cases this
      by_cases q' : k = ρ.length
      · subst q'; rw [he] at hek; cases hek
        exact absurd hee (hfree j cj ej hj h1 hoj)
      · rw [if_neg q'] at hk
        obtain ⟨ek', h2, _⟩ := h.own k cj' hk
        have := x.get h2; rw [hek] at this; cases this
        exact h.inj j k cj cj' ej ek hj hk hoj hok h1 h2 hee
/-- A block is forgotten. -/
theorem Rep.drop {ρ : Env} {M M' : Mem} {hF : Hp} {w : World} {i : Nat} (h : Rep ρ M hF w) (hs : ∀ m, M'.get m = if m = i then none else M.get m) : Rep ρ M' hF w := by
  have old : ∀ j cj, M'.get j = some cj → M.get j = some cj := fun j cj hj => by
    rw [hs] at hj
    split at hj
    · cases hj
    · exact hj
  exact ⟨fun j cj hj => h.own j cj (old j cj hj), fun j k cj cj' ej ek hj hk => h.inj j k cj cj' ej ek (old _ _ hj) (old _ _ hk), h.frame⟩

/-- Cells that may be read. -/
def Ck.cells : Ck → Option (List AV)
  | .row _ _ l _ => some l
  | .ro _ l => some l
  | _ => none
theorem Rep.cells {ρ : Env} {M : Mem} {hF : Hp} {w : World} {i : Nat} {ck : Ck} {l : List AV} (h : Rep ρ M hF w) (hi : M.get i = some ck) (hc : ck.cells = some l) :
    ∃ e cs t fz vs, ρ[i]? = some e ∧ w.heap[e.1]? = some (.cells ⟨cs⟩ t fz) ∧ RL ρ l vs ∧ At cs e.2.1 vs := by
  obtain ⟨e, h1, h2, h3⟩ := h.own i ck hi
  cases ck with
  | row t s l' fz =>
    cases hc
    obtain ⟨pre, vs, ex, fzr, a, b, c, _⟩ := h2
    refine ⟨e, _, t, fzr, vs, h1, b, a, ?_⟩
    rw [← c, ← List.append_assoc]; exact At.mid _ _ _
  | ro t l' =>
    cases hc
    obtain ⟨vs, fz, a, b, c⟩ := h2
    refine ⟨e, vs, t, fz, vs, h1, h.frame _ _ b, a, ?_⟩
    rw [c]; exact At.all _
  | _ => cases hc
end
end Go.Ev
