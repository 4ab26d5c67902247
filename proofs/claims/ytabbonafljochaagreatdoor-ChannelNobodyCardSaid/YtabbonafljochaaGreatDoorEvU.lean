/- The evaluator, parts V Va W Y T U. -/
import Derived.Test.YtabbonafljochaaGreatDoorEvX1
import Derived.LoopNIn
import Derived.KernelRfl
set_option linter.unusedSimpArgs false
set_option linter.unusedVariables false
namespace Go.Ev
open Go.Sl
noncomputable section
section
variable {P : Program} {ops : Array Oper} {Q Q' : Exit → Act → World → Prop} {ro : Option Nat} {S S' : Nat → World → World → Prop}

/-- Whatever comes up next; operation i keeps to S i: the world ahead of it, the world behind it. -/
def Hs (ro : Option Nat) (P : Program) (ops : Array Oper) (Q : Exit → Act → World → Prop) (S : Nat → World → World → Prop) : Nat → Array Bool → Act → World → Prop
  | 0, done, a, w => Region.ready .any ops done = [] ∧ Q .normal a w
  | n + 1, done, a, w => (Region.ready .any ops done = [] → Q .normal a w) ∧
    ∀ i ∈ Region.ready .any ops done, wpOpIn (FW ro) 0 P ops Q i (fun a' w' => S i w w' ∧ Hs ro P ops Q S n (done.setIfInBounds i true) a' w') a w
theorem Hs.any : ∀ (n : Nat) (done : Array Bool) (a : Act) (w : World), Hs ro P ops Q S n done a w → wpAnyIn (FW ro) 0 P .any ops Q n done a w
  | 0, _, _, _, h => h
  | n + 1, _, _, _, h => ⟨h.1, fun i hi => wpOpIn_mono (fun a' w' k => Hs.any n _ a' w' k.2) (h.2 i hi)⟩
theorem Hs.mono (hS : ∀ i w w', S i w w' → S' i w w') : ∀ (n : Nat) (done : Array Bool) (a : Act) (w : World), Hs ro P ops Q S n done a w → Hs ro P ops Q S' n done a w
  | 0, _, _, _, h => h
  | n + 1, _, _, _, h => ⟨h.1, fun i hi => wpOpIn_mono (fun a' w' k => ⟨hS _ _ _ k.1, Hs.mono hS n _ a' w' k.2⟩) (h.2 i hi)⟩
theorem wpOpIn_monoQ {i : Nat} {K : Act → World → Prop} {a : Act} {w : World} (hQ : ∀ e a w, Q e a w → Q' e a w) (h : wpOpIn (FW ro) 0 P ops Q i K a w) : wpOpIn (FW ro) 0 P ops Q' i K a w := by
  unfold Go.wpOpIn at *
  cases ho : ops[i]? with
  | none => simp only [ho] at h ⊢; exact h
  | some o =>
    simp only [ho] at h ⊢
    split
    · rename_i e; simp only [e, if_true] at h
      exact Oper.wpIn_monoQ hQ h
    · rename_i e; simp only [e] at h
      exact h
theorem Hs.monoQ (hQ : ∀ e a w, Q e a w → Q' e a w) : ∀ (n : Nat) (done : Array Bool) (a : Act) (w : World), Hs ro P ops Q S n done a w → Hs ro P ops Q' S n done a w
  | 0, _, _, _, h => ⟨h.1, hQ _ _ _ h.2⟩
  | n + 1, _, _, _, h => ⟨fun e => hQ _ _ _ (h.1 e), fun i hi => wpOpIn_mono (fun a' w' k => ⟨k.1, Hs.monoQ hQ n _ a' w' k.2⟩) (wpOpIn_monoQ hQ (h.2 i hi))⟩

/-- Number i, which yields v wherever R holds, is taken first. -/
theorem Hs.take {R : World → Prop} {i : Nat} {oi : Oper} {v : Value} (hi : ops[i]? = some oi) (hsel : Region.noSelect ops = true) (hnd : noDefer ops = true) (hQ : ∀ c a w, Q (.panic c) (a.put oi.dst v) w → Q (.panic c) a w)
    (hS : ∀ w, S i w w) (hR : ∀ j w w', anc ops ops.size j i = false → S j w w' → R w → R w') :
    ∀ (n : Nat) (done : Array Bool) (a : Act) (w : World), Closed ops done → (∀ j oj, ops[j]? = some oj → j ≠ i → done.getD j true = false → (∀ e ∈ oj.after, Region.binds .any e = true → e.on ≠ i) → oi.apart ops oj = true) →
      i ∈ Region.ready .any ops done → YieldsIf P ops R oi v a → R w → Hs ro P ops Q S n (done.setIfInBounds i true) (a.put oi.dst v) w → Hs ro P ops Q S (n + 1) done a w := by
  have self : ∀ (n : Nat) (done : Array Bool) (a : Act) (w : World), YieldsIf P ops R oi v a → R w → Hs ro P ops Q S n (done.setIfInBounds i true) (a.put oi.dst v) w →
      wpOpIn (FW ro) 0 P ops Q i (fun a' w' => S i w w' ∧ Hs ro P ops Q S n (done.setIfInBounds i true) a' w') a w :=
    fun n done a w hy hr H => YieldsIf.wpOpIn hi (noDefer_spec hnd hi) hy hr ⟨hS w, H⟩
  intro n
  induction n with
  | zero =>
    intro done a w _ _ hr hy hw H
    refine ⟨fun h => absurd hr (by rw [h]; simp), fun j hj => ?_⟩
    by_cases e : j = i
    · subst e; exact self 0 done a w hy hw H
    · exact absurd (ready_mono hj e) (by rw [H.1]; simp)
  | succ n ih =>
    intro done a w hcl hfree hr hy hw H
    refine ⟨fun h => absurd hr (by rw [h]; simp), fun j hj => ?_⟩
    by_cases e : j = i
    · subst e; exact self (n + 1) done a w hy hw H
    obtain ⟨hun, oj, hoj, hall⟩ := mem_ready.1 hj
    have hun' : done.getD i false = false := getD_both' (mem_ready.1 hr).1
    have hnot : ∀ x ∈ oj.after, Region.binds .any x = true → x.on ≠ i := fun x hx hb q => by
      have h1 := hall x hx hb
      rw [q, hun'] at h1; cases h1
    have hanc : anc ops ops.size j i = false := by
      cases hc : anc ops ops.size j i with
      | false => rfl
      | true =>
        have := anc_done hcl _ j i oj hoj hall hc
        rw [hun'] at this; cases this
    have h2 := wpOpIn_putIf hoj (noDefer_spec hnd hoj) (hfree j oj hoj e hun hnot) (fun cs b => Region.noSelect_spec hsel i oi cs b hi) (fun cs b => Region.noSelect_spec hsel j oj cs b hoj) hQ hy (H.2 j (ready_mono hj e))
    refine wpOpIn_mono (fun a' w' h3 => ?_) h2
    obtain ⟨hy', hS', H'⟩ := h3
    rw [Array.setIfInBounds_comm _ _ (Ne.symm e)] at H'
    refine ⟨hS', ih _ a' w' (hcl.set hj) (fun k ok hk hki hund hno => hfree k ok hk hki ?_ hno) (ready_mono hr (Ne.symm e)) hy' (hR j w w' hanc hS' hw) H'⟩
    by_cases q : j = k
    · subst q; exact hun
    · rwa [getD_set_ne true q] at hund
end

/-! ### plans -/
/-- A plan: taken first (it asks nothing of the world), taken and held, one of those that may come up (chk: what is held and may yet be to come there). -/
inductive Pl where
  | fin
  | take (i : Nat) (p : Pl)
  | hold (i : Nat) (p : Pl)
  | alt (i : Nat) (chk : List Nat) (p q : Pl)
  | stop
def readyL (ops : List Oper) (done : Array Bool) : List Nat := Region.ready .any ops.toArray done
def hasN (l : List Nat) (i : Nat) : Bool := List.rec false (fun x _ ih => Bool.rec ih true (Nat.beq x i)) l
theorem hasN_spec : ∀ {l : List Nat} {i : Nat}, hasN l i = true → i ∈ l
  | x :: l, i, h => by
    have h : (Bool.rec (hasN l i) true (Nat.beq x i) : Bool) = true := h
    cases q : Nat.beq x i with
    | true => rw [Nat.eq_of_beq_eq_true q]; simp
    | false => rw [q] at h; exact List.mem_cons_of_mem _ (hasN_spec h)
def isNilL (l : List Nat) : Bool := List.rec true (fun _ _ _ => false) l
theorem isNilL_spec {l : List Nat} (h : isNilL l = true) : l = [] := by cases l <;> first | rfl | cases h
/-- Does the plan fit? n: so many may yet come; held: what is held; seen: of those that may come up, which are provided for. -/
def okPl (ops : List Oper) (p : Pl) : Nat → Array Bool → List Nat → List Nat → Bool :=
  Pl.rec (fun _ done _ _ => isNilL (readyL ops done))
    (fun i _ ih n done held _ => Nat.rec false (fun n _ => both (hasN (readyL ops done) i) (both (Region.free .any ops.toArray done i) (ih n (done.setIfInBounds i true) held []))) n)
    (fun i _ ih n done held _ => Nat.rec false (fun n _ => both (hasN (readyL ops done) i) (both (Region.free .any ops.toArray done i) (ih n (done.setIfInBounds i true) (i :: held) []))) n)
    (fun i chk _ _ ihp ihq n done held seen => Nat.rec false (fun m _ => both (hasN (readyL ops done) i) (both (allL (fun h => Bool.rec (anc ops.toArray ops.toArray.size i h) true (hasN chk h)) held) (both (ihp m (done.setIfInBounds i true) held []) (ihq n done held (i :: seen))))) n)
    (fun n done _ seen => Nat.rec false (fun _ _ => both (notB (isNilL (readyL ops done))) (allL (hasN seen) (readyL ops done))) n) p
def okPlan (ops : List Oper) (p : Pl) : Bool := both (Region.noSelect ops.toArray) (both (noDefer ops.toArray) (okPl ops p ops.length (Array.replicate ops.length false) [] []))
/-- What is owed at a point of a plan. -/
def Owed (ro : Option Nat) (P : Program) (ops : List Oper) (Q : Exit → Act → World → Prop) (S : Nat → World → World → Prop) (seen : List Nat) : Nat → Array Bool → Act → World → Prop
  | 0, done, a, w => Hs ro P ops.toArray Q S 0 done a w
  | n + 1, done, a, w => (Region.ready .any ops.toArray done = [] → Q .normal a w) ∧
    ∀ i ∈ Region.ready .any ops.toArray done, hasN seen i = false → wpOpIn (FW ro) 0 P ops.toArray Q i (fun a' w' => S i w w' ∧ Hs ro P ops.toArray Q S n (done.setIfInBounds i true) a' w') a w
theorem Owed.hs {ro : Option Nat} {P : Program} {ops : List Oper} {Q : Exit → Act → World → Prop} {S : Nat → World → World → Prop} : ∀ {n : Nat} {done : Array Bool} {a : Act} {w : World}, Owed ro P ops Q S [] n done a w → Hs ro P ops.toArray Q S n done a w
  | 0, _, _, _, h => h
  | n + 1, _, _, _, h => ⟨h.1, fun i hi => h.2 i hi rfl⟩
theorem Hs.owed {ro : Option Nat} {P : Program} {ops : List Oper} {Q : Exit → Act → World → Prop} {S : Nat → World → World → Prop} {seen : List Nat} : ∀ {n : Nat} {done : Array Bool} {a : Act} {w : World}, Hs ro P ops.toArray Q S n done a w → Owed ro P ops Q S seen n done a w
  | 0, _, _, _, h => h
  | n + 1, _, _, _, h => ⟨h.1, fun i hi _ => h.2 i hi⟩

/-! ### the same value again -/
def eqB (b c : Bool) : Bool := Bool.rec (notB c) c b
theorem eqB_spec {b c : Bool} (h : eqB b c = true) : b = c := by cases b <;> cases c <;> first | rfl | cases h
def eqI (m n : Int) : Bool := Int.rec (fun x => Int.rec (fun y => Nat.beq x y) (fun _ => false) n) (fun x => Int.rec (fun _ => false) (fun y => Nat.beq x y) n) m
theorem eqI_spec {m n : Int} (h : eqI m n = true) : m = n := by
  cases m <;> cases n <;> first | cases h | skip
  · rw [Nat.eq_of_beq_eq_true (show Nat.beq _ _ = true from h)]
  · rw [Nat.eq_of_beq_eq_true (show Nat.beq _ _ = true from h)]
def eqLs (f : AV → AV → Bool) (l : List AV) : List AV → Bool := List.rec (fun m => List.rec true (fun _ _ _ => false) m) (fun x _ ih m => List.rec false (fun y t _ => both (f x y) (ih t)) m) l
theorem eqLs_spec {f : AV → AV → Bool} (hf : ∀ x y, f x y = true → x = y) : ∀ {l m : List AV}, eqLs f l m = true → l = m
  | [], [], _ => rfl
  | [], _ :: _, h => by cases h
  | _ :: _, [], h => by cases h
  | x :: l, y :: m, h => by
    obtain ⟨h1, h2⟩ := both_eq.1 (show both (f x y) (eqLs f l m) = true from h)
    rw [hf x y h1, eqLs_spec hf h2]
def eqStep (f : AV → AV → Bool) (v u : AV) : Bool := match v with
  | .bool b => (match u with | .bool c => eqB b c | _ => false)
  | .int k m => (match u with | .int k' n => both (decide (k = k')) (eqI m n) | _ => false)
  | .str l => (match u with | .str m => eqN l m | _ => false)
  | .nilp => (match u with | .nilp => true | _ => false)
  | .ptr i o => (match u with | .ptr i' o' => both (Nat.beq i i') (Nat.beq o o') | _ => false)
  | .nils => (match u with | .nils => true | _ => false)
  | .sl i o n c s => (match u with | .sl i' o' n' c' s' => both (Nat.beq i i') (both (Nat.beq o o') (both (Nat.beq n n') (both (Nat.beq c c') (eqB s s')))) | _ => false)
  | .nilm => (match u with | .nilm => true | _ => false)
  | .map i => (match u with | .map j => Nat.beq i j | _ => false)
  | .nilf => (match u with | .nilf => true | _ => false)
  | .nili => (match u with | .nili => true | _ => false)
  | .fn (.func g) xs ys => (match u with | .fn (.func g') xs' ys' => both (Nat.beq g g') (both (eqLs f xs xs') (eqLs f ys ys')) | _ => false)
  | .iface t x => (match u with | .iface t' y => both (Nat.beq t t') (f x y) | _ => false)
  | .agg l => (match u with | .agg m => eqLs f l m | _ => false)
  | .tup l => (match u with | .tup m => eqLs f l m | _ => false)
  | _ => false
theorem eqStep_spec {f : AV → AV → Bool} (hf : ∀ x y, f x y = true → x = y) {v u : AV} (h : eqStep f v u = true) : v = u := by
  unfold eqStep at h
  split at h <;> (try split at h) <;> (try simp only [both_eq, decide_eq_true_eq] at h) <;> (try (cases h; done)) <;> (try rfl)
  · rw [eqB_spec h]
  · rw [h.1, eqI_spec h.2]
  · rw [eqN_spec] at h; rw [of_decide_eq_true h]
  · rw [Nat.eq_of_beq_eq_true h.1, Nat.eq_of_beq_eq_true h.2]
  · rw [Nat.eq_of_beq_eq_true h.1, Nat.eq_of_beq_eq_true h.2.1, Nat.eq_of_beq_eq_true h.2.2.1, Nat.eq_of_beq_eq_true h.2.2.2.1, eqB_spec h.2.2.2.2]
  · rw [Nat.eq_of_beq_eq_true h]
  · rw [Nat.eq_of_beq_eq_true h.1, eqLs_spec hf h.2.1, eqLs_spec hf h.2.2]
  · rw [Nat.eq_of_beq_eq_true h.1, hf _ _ h.2]
  · rw [eqLs_spec hf h]
  · rw [eqLs_spec hf h]
def eqA (v u : AV) : Bool := Nat.rec (fun _ _ => false) (fun _ f => eqStep f) 6 v u
theorem eqA_spec {v u : AV} (h : eqA v u = true) : v = u := by
  have key : ∀ n v u, (Nat.rec (fun _ _ => false) (fun _ f => eqStep f) n v u : Bool) = true → v = u := by
    intro n
    induction n with
    | zero => intro v u h; cases h
    | succ n ih => intro v u h; exact eqStep_spec ih h
  exact key 6 v u h

/-! ### a plan for a statement -/
def cls {P : Program} (T : Tabs P) (op : Op) : Nat := match op with
  | .move _ => 0
  | .assign _ => 0
  | .pick .. => 0
  | .nilCheck _ => 0
  | .sliceToArrayPointer .. => 0
  | .fieldAddr .. => 0
  | .field .. => 0
  | .indexAddr .. => 0
  | .index .. => 0
  | .binOp .. => 0
  | .unOp .. => 0
  | .makeInterface .. => 0
  | .makeFunc .. => 0
  | .slice .. => 0
  | .build .. => 0
  | .typeAssert .. => 0
  | .extract .. => 0
  | .load .. => 1
  | .lookup .. => 1
  | .entry _ => 1
  | .convert _ td _ => Option.rec 2 (fun r => match r with
    | ⟨.sl _, _, _⟩ => 2
    | _ => 1) (T.T td)
  | .call ⟨.builtin .len, _, _⟩ => 1
  | .call ⟨.builtin .min, _, _⟩ => 0
  | .call ⟨.builtin .max, _, _⟩ => 0
  | _ => 2
def clsAt {P : Program} (T : Tabs P) (ops : List Oper) (i : Nat) : Nat := Option.rec 2 (fun o => Oper.rec (fun _ op _ _ _ _ => cls T op) o) (nth ops i)
/-- The first of these that may be taken. -/
def pick1 {P : Program} (T : Tabs P) (ops : List Oper) (done : Array Bool) (l : List Nat) : Option (Nat × Nat) := List.rec none (fun i _ ih => Nat.rec (Bool.rec ih (some (i, 0)) (Region.free .any ops.toArray done i)) (fun m _ => Nat.rec (Bool.rec ih (some (i, 1)) (Region.free .any ops.toArray done i)) (fun _ _ => ih) m) (clsAt T ops i)) l
def notAnc (ops : List Oper) (i : Nat) (held : List Nat) : List Nat := List.rec [] (fun h _ ih => Bool.rec (h :: ih) ih (anc ops.toArray ops.toArray.size i h)) held
def planF {P : Program} (T : Tabs P) (ops : List Oper) (n : Nat) : Array Bool → List Nat → Pl := Nat.rec (fun _ _ => .fin) (fun _ ih done held => Option.rec
    (List.rec Pl.fin (fun i l _ => List.rec Pl.stop (fun i _ acc => Pl.alt i (notAnc ops i held) (ih (done.setIfInBounds i true) held) acc) (i :: l)) (readyL ops done))
    (fun p => Prod.rec (fun i c => Nat.rec (Pl.take i (ih (done.setIfInBounds i true) held)) (fun _ _ => Pl.hold i (ih (done.setIfInBounds i true) (i :: held))) c) p)
    (pick1 T ops done (readyL ops done))) n
def planOf {P : Program} (T : Tabs P) (ops : List Oper) : Pl := planF T ops ops.length (Array.replicate ops.length false) []
end
end Go.Ev
set_option linter.unusedSimpArgs false
set_option linter.unusedVariables false
namespace Go.Ev
open Go.Sl
noncomputable section
variable {P : Program}
def forceX {X : Type} (n : Nat) (k : Nat → X) : X := Nat.rec (k 0) (fun m _ => k (Nat.succ m)) n
theorem forceX_eq {X : Type} (n : Nat) (k : Nat → X) : forceX n k = k n := by cases n <;> rfl

/-! ### bits -/
def bitQ (m i : Nat) : Bool := Nat.beq (Nat.land (Nat.shiftRight m i) 1) 1
theorem bitQ_eq (m i : Nat) : bitQ m i = m.testBit i := by
  have h : Nat.land (Nat.shiftRight m i) 1 = (m >>> i) % 2 := Nat.and_one_is_mod _
  have h2 : m.testBit i = decide ((m >>> i) % 2 = 1) := by
    rw [Nat.testBit_eq_decide_div_mod_eq, Nat.shiftRight_eq_div_pow]
  unfold bitQ
  rw [h, h2]
  have : (m >>> i) % 2 = 0 ∨ (m >>> i) % 2 = 1 := by omega
  rcases this with e | e <;> rw [e] <;> rfl
theorem bit_pow (i j : Nat) : (Nat.pow 2 i).testBit j = decide (i = j) := by
  show (2 ^ i).testBit j = _
  rw [Nat.testBit_two_pow]
theorem lor_bit (a b i : Nat) : (Nat.lor a b).testBit i = (a.testBit i || b.testBit i) := Nat.testBit_or a b i
/-- The bits of a are among those of m. -/
def subM (a m : Nat) : Bool := Nat.beq (Nat.land a m) a
theorem subM_eq {a m : Nat} : subM a m = true ↔ ∀ i, a.testBit i = true → m.testBit i = true := by
  constructor
  · intro h i hi
    have e : a &&& m = a := Nat.eq_of_beq_eq_true h
    rw [← e, Nat.testBit_and] at hi
    simp only [Bool.and_eq_true] at hi
    exact hi.2
  · intro h
    have e : a &&& m = a := Nat.eq_of_testBit_eq fun i => by
      rw [Nat.testBit_and]
      cases q : a.testBit i with
      | false => rfl
      | true => rw [h i q]; rfl
    show Nat.beq (a &&& m) a = true
    rw [e]; exact Nat.beq_refl a
def disM (a m : Nat) : Bool := Nat.beq (Nat.land a m) 0
theorem disM_spec {a m : Nat} (h : disM a m = true) (i : Nat) : ¬ (a.testBit i = true ∧ m.testBit i = true) := by
  have e : a &&& m = 0 := Nat.eq_of_beq_eq_true h
  rintro ⟨h1, h2⟩
  have : (a &&& m).testBit i = true := by rw [Nat.testBit_and, h1, h2]; rfl
  rw [e] at this
  simp at this

/-! ### marks of operations -/
def mA (l : List Edge) : Nat := List.rec 0 (fun e _ ih => Bool.rec ih (Nat.lor (Nat.pow 2 (Edge.rec (fun n _ => n) e)) ih) (Region.binds .any e)) l
theorem edge_on (e : Edge) : (Edge.rec (fun n _ => n) e : Nat) = e.on := by cases e; rfl
theorem mA_cons (e : Edge) (l : List Edge) : mA (e :: l) = (Bool.rec (mA l) (Nat.lor (Nat.pow 2 (Edge.rec (fun n _ => n) e)) (mA l)) (Region.binds .any e) : Nat) := rfl
theorem mA_bit {i : Nat} : ∀ {l : List Edge}, (mA l).testBit i = true ↔ ∃ e ∈ l, Region.binds .any e = true ∧ e.on = i
  | [] => by simp [mA]
  | e :: l => by
    rw [mA_cons, edge_on]
    cases hb : Region.binds .any e with
    | false =>
      show (mA l).testBit i = true ↔ _
      rw [mA_bit]
      constructor
      · rintro ⟨x, h1, h2⟩; exact ⟨x, List.mem_cons_of_mem _ h1, h2⟩
      · rintro ⟨x, h1, h2⟩
        rcases List.mem_cons.1 h1 with rfl | h1
        · rw [hb] at h2; cases h2.1
        · exact ⟨x, h1, h2⟩
    | true =>
      show (Nat.lor (Nat.pow 2 e.on) (mA l)).testBit i = true ↔ _
      rw [lor_bit, bit_pow, Bool.or_eq_true, mA_bit, decide_eq_true_eq]
      constructor
      · rintro (h | ⟨x, h1, h2⟩)
        · exact ⟨e, List.mem_cons_self, hb, h⟩
        · exact ⟨x, List.mem_cons_of_mem _ h1, h2⟩
      · rintro ⟨x, h1, h2⟩
        rcases List.mem_cons.1 h1 with rfl | h1
        · exact .inl h2.2
        · exact .inr ⟨x, h1, h2⟩
def mT (l : List Nat) : Nat := List.rec 0 (fun t _ ih => Nat.lor (Nat.pow 2 t) ih) l
theorem mT_bit {i : Nat} : ∀ {l : List Nat}, (mT l).testBit i = true ↔ i ∈ l
  | [] => by simp [mT]
  | t :: l => by
    show (Nat.lor (Nat.pow 2 t) (mT l)).testBit i = true ↔ _
    rw [lor_bit, bit_pow, Bool.or_eq_true, mT_bit, decide_eq_true_eq, List.mem_cons]
    constructor
    · rintro (h | h)
      · exact .inl h.symm
      · exact .inr h
    · rintro (h | h)
      · exact .inl h.symm
      · exact .inr h
def dM (d : Option Tmp) : Nat := Option.rec 0 (fun t => Nat.pow 2 t) d
theorem dM_bit {d : Option Tmp} {i : Nat} : (dM d).testBit i = true ↔ d = some i := by
  cases d with
  | none => simp [dM]
  | some t => show (Nat.pow 2 t).testBit i = true ↔ _; rw [bit_pow]; simp
/-- Its number; what it waits for; what it comes behind by whatever steps; what it looks at; what it writes; its class. -/
inductive OE where
  | mk (i A G R D c : Nat)
def OE.i (e : OE) : Nat := OE.rec (fun i _ _ _ _ _ => i) e
def OE.A (e : OE) : Nat := OE.rec (fun _ A _ _ _ _ => A) e
def OE.G (e : OE) : Nat := OE.rec (fun _ _ G _ _ _ => G) e
def OE.R (e : OE) : Nat := OE.rec (fun _ _ _ R _ _ => R) e
def OE.D (e : OE) : Nat := OE.rec (fun _ _ _ _ D _ => D) e
def findG (acc : List OE) (j : Nat) : Nat := List.rec 0 (fun e _ ih => OE.rec (fun i _ G _ _ _ => Bool.rec ih G (Nat.beq i j)) e) acc
def mG (acc : List OE) (l : List Edge) : Nat := List.rec 0 (fun e _ ih => Bool.rec ih (Nat.lor (Nat.lor (Nat.pow 2 (Edge.rec (fun n _ => n) e)) (findG acc (Edge.rec (fun n _ => n) e))) ih) (Region.binds .any e)) l
structure OEok (ops : List Oper) (e : OE) : Prop where
  op : ∃ o, ops[e.i]? = some o ∧ e.A = mA o.after.toList ∧ e.R = mT (o.looksAt ops.toArray) ∧ e.D = dM o.dst
  anc : ∀ h, e.G.testBit h = true → anc ops.toArray (e.i + 1) e.i h = true
theorem anc_mono {ops : Array Oper} : ∀ {n m j i : Nat}, anc ops n j i = true → n ≤ m → anc ops m j i = true
  | 0, m, j, i, h, _ => by simp [anc] at h
  | n + 1, 0, j, i, h, hle => by omega
  | n + 1, m + 1, j, i, h, hle => by
    unfold anc at h ⊢
    cases ho : ops[j]? with
    | none => rw [ho] at h; cases h
    | some o =>
      rw [ho] at h
      simp only [List.any_eq_true, Bool.and_eq_true, Bool.or_eq_true] at h ⊢
      obtain ⟨e, he, hb, h⟩ := h
      refine ⟨e, he, hb, ?_⟩
      rcases h with h | h
      · exact .inl h
      · exact .inr (anc_mono h (by omega))
theorem findG_spec {ops : List Oper} {j h : Nat} : ∀ {acc : List OE}, (∀ e ∈ acc, OEok ops e) → (findG acc j).testBit h = true → ∃ e ∈ acc, e.i = j ∧ e.G.testBit h = true
  | [], _, hh => by simp [findG] at hh
  | e :: acc, ok, hh => by
    obtain ⟨i, A, G, R, D, c⟩ := e
    have hh : (Bool.rec (findG acc j) G (Nat.beq i j) : Nat).testBit h = true := hh
    cases q : Nat.beq i j with
    | true => rw [q] at hh; exact ⟨_, List.mem_cons_self, Nat.eq_of_beq_eq_true q, hh⟩
    | false =>
      rw [q] at hh
      obtain ⟨e, h1, h2⟩ := findG_spec (fun e he => ok e (List.mem_cons_of_mem _ he)) hh
      exact ⟨e, List.mem_cons_of_mem _ h1, h2⟩
theorem mG_spec {ops : List Oper} {acc : List OE} (ok : ∀ e ∈ acc, OEok ops e) {h : Nat} : ∀ {l : List Edge}, (mG acc l).testBit h = true → ∃ e ∈ l, Region.binds .any e = true ∧ (e.on = h ∨ ∃ x ∈ acc, x.i = e.on ∧ x.G.testBit h = true)
  | [], hh => by simp [mG] at hh
  | e :: l, hh => by
    have hh : (Bool.rec (mG acc l) (Nat.lor (Nat.lor (Nat.pow 2 (Edge.rec (fun n _ => n) e)) (findG acc (Edge.rec (fun n _ => n) e))) (mG acc l)) (Region.binds .any e) : Nat).testBit h = true := hh
    rw [edge_on] at hh
    cases hb : Region.binds .any e with
    | false =>
      rw [hb] at hh
      obtain ⟨x, h1, h2⟩ := mG_spec ok hh
      exact ⟨x, List.mem_cons_of_mem _ h1, h2⟩
    | true =>
      rw [hb] at hh
      have hh : (Nat.lor (Nat.lor (Nat.pow 2 e.on) (findG acc e.on)) (mG acc l)).testBit h = true := hh
      rw [lor_bit, lor_bit, bit_pow, Bool.or_eq_true, Bool.or_eq_true, decide_eq_true_eq] at hh
      rcases hh with (hh | hh) | hh
      · exact ⟨e, List.mem_cons_self, hb, .inl hh⟩
      · exact ⟨e, List.mem_cons_self, hb, .inr (findG_spec ok hh)⟩
      · obtain ⟨x, h1, h2⟩ := mG_spec ok hh
        exact ⟨x, List.mem_cons_of_mem _ h1, h2⟩
def prepX {X : Type} (T : Tabs P) (all : List Oper) (rest : List Oper) : Nat → List OE → (List OE → X) → X := List.rec (fun _ _ k => k []) (fun o _ ih i acc k => Oper.rec (fun d op _ _ af _ =>
  forceX (mA af.toList) fun A => forceX (mG acc af.toList) fun G => forceX (mT (Oper.looksAt all.toArray o)) fun R => forceX (dM d) fun D => forceX (cls T op) fun c => forceX (Nat.succ i) fun i' =>
    ih i' (.mk i A G R D c :: acc) fun es => k (.mk i A G R D c :: es)) o) rest
theorem prepX_spec {T : Tabs P} {all : List Oper} : ∀ {rest pre : List Oper} {acc : List OE} {k : List OE → Bool}, prepX T all rest pre.length acc k = true → all = pre ++ rest → (∀ e ∈ acc, OEok all e ∧ e.i < pre.length) →
    ∃ es, k es = true ∧ (∀ e ∈ es, OEok all e) ∧ es.length = rest.length ∧ ∀ j e, es[j]? = some e → e.i = pre.length + j
  | [], pre, acc, k, h, ha, ok => ⟨[], h, by simp, rfl, by simp⟩
  | ⟨d, op, ty, pos, af, g⟩ :: rest, pre, acc, k, h, ha, ok => by
    have h : (forceX (mA af.toList) fun A => forceX (mG acc af.toList) fun G => forceX (mT (Oper.looksAt all.toArray ⟨d, op, ty, pos, af, g⟩)) fun R => forceX (dM d) fun D => forceX (cls T op) fun c => forceX (Nat.succ pre.length) fun i' =>
      prepX T all rest i' (.mk pre.length A G R D c :: acc) fun es => k (.mk pre.length A G R D c :: es)) = true := h
    simp only [forceX_eq] at h
    have hget : all[pre.length]? = some ⟨d, op, ty, pos, af, g⟩ := by rw [ha]; simp
    have hlt : pre.length < all.length := by rw [ha]; simp
    have hok : OEok all (.mk pre.length (mA af.toList) (mG acc af.toList) (mT (Oper.looksAt all.toArray ⟨d, op, ty, pos, af, g⟩)) (dM d) (cls T op)) := by
      refine ⟨⟨_, hget, rfl, rfl, rfl⟩, fun x hx => ?_⟩
      obtain ⟨e, h1, h2, h3⟩ := mG_spec (fun e he => (ok e he).1) (show (mG acc af.toList).testBit x = true from hx)
      show anc all.toArray (pre.length + 1) pre.length x = true
      unfold anc
      rw [show all.toArray[pre.length]? = some ⟨d, op, ty, pos, af, g⟩ by simpa using hget]
      simp only [List.any_eq_true, Bool.and_eq_true, Bool.or_eq_true]
      refine ⟨e, h1, h2, ?_⟩
      rcases h3 with h3 | ⟨y, y1, y2, y3⟩
      · left; rw [h3]; exact Nat.beq_refl x
      · right
        have := (ok y y1).1.anc x y3
        rw [y2] at this
        exact anc_mono this (by have := (ok y y1).2; omega)
    obtain ⟨es, h1, h2, h3, h4⟩ := prepX_spec (pre := pre ++ [⟨d, op, ty, pos, af, g⟩]) (by simpa using h) (by rw [ha]; simp) (fun e he => by
      rcases List.mem_cons.1 he with rfl | he
      · exact ⟨hok, by show pre.length < _; simp⟩
      · have := ok e he; exact ⟨this.1, by simp; omega⟩)
    refine ⟨_, h1, fun e he => ?_, by simp [h3], fun j e hj => ?_⟩
    · rcases List.mem_cons.1 he with rfl | he
      · exact hok
      · exact h2 e he
    · cases j with
      | zero => simp at hj; subst hj; rfl
      | succ j =>
        have := h4 j e (by simpa using hj)
        rw [this]; simp; omega

/-! ### what may come up -/
def readyM (es : List OE) (m : Nat) : List OE := List.rec [] (fun e _ ih => OE.rec (fun i A G R D c => Bool.rec (Bool.rec ih (.mk i A G R D c :: ih) (subM A m)) ih (bitQ m i)) e) es
theorem readyM_mem {m : Nat} {e : OE} : ∀ {es : List OE}, e ∈ readyM es m ↔ e ∈ es ∧ m.testBit e.i = false ∧ subM e.A m = true
  | [] => by simp [readyM]
  | ⟨i, A, G, R, D, c⟩ :: es => by
    show e ∈ (Bool.rec (Bool.rec (readyM es m) (.mk i A G R D c :: readyM es m) (subM A m)) (readyM es m) (bitQ m i) : List OE) ↔ _
    rw [bitQ_eq]
    cases q : m.testBit i with
    | true =>
      show e ∈ readyM es m ↔ _
      rw [readyM_mem, List.mem_cons]
      constructor
      · rintro ⟨h1, h2⟩; exact ⟨.inr h1, h2⟩
      · rintro ⟨h1 | h1, h2, h3⟩
        · subst h1; rw [show OE.i _ = i from rfl, q] at h2; cases h2
        · exact ⟨h1, h2, h3⟩
    | false =>
      show e ∈ (Bool.rec (readyM es m) (.mk i A G R D c :: readyM es m) (subM A m) : List OE) ↔ _
      cases q' : subM A m with
      | true =>
        show e ∈ _ :: readyM es m ↔ _
        rw [List.mem_cons, List.mem_cons, readyM_mem]
        constructor
        · rintro (h1 | ⟨h1, h2⟩)
          · subst h1; exact ⟨.inl rfl, q, q'⟩
          · exact ⟨.inr h1, h2⟩
        · rintro ⟨h1 | h1, h2⟩
          · exact .inl h1
          · exact .inr ⟨h1, h2⟩
      | false =>
        show e ∈ readyM es m ↔ _
        rw [readyM_mem, List.mem_cons]
        constructor
        · rintro ⟨h1, h2⟩; exact ⟨.inr h1, h2⟩
        · rintro ⟨h1 | h1, h2, h3⟩
          · subst h1; rw [show OE.A _ = A from rfl, q'] at h3; cases h3
          · exact ⟨h1, h2, h3⟩
/-- The marks fit the operations. -/
structure EsOk (ops : List Oper) (es : List OE) : Prop where
  ok : ∀ e ∈ es, OEok ops e
  len : es.length = ops.length
  at' : ∀ (j : Nat) (e : OE), es[j]? = some e → e.i = j
theorem EsOk.get {ops : List Oper} {es : List OE} (h : EsOk ops es) {j : Nat} (hj : j < ops.length) : ∃ e, es[j]? = some e ∧ e ∈ es ∧ e.i = j := by
  have : j < es.length := by rw [h.len]; exact hj
  exact ⟨es[j], by simp [this], List.getElem_mem this, h.at' j _ (by simp [this])⟩
def DoneM (ops : List Oper) (done : Array Bool) (m : Nat) : Prop := done.size = ops.length ∧ (∀ i, i < ops.length → done[i]? = some (m.testBit i)) ∧ ∀ i, ops.length ≤ i → m.testBit i = false
theorem DoneM.getF {ops : List Oper} {done : Array Bool} {m : Nat} (h : DoneM ops done m) (i : Nat) : done.getD i false = m.testBit i := by
  by_cases hi : i < ops.length
  · simp [Array.getD_eq_getD_getElem?, h.2.1 i hi]
  · rw [h.2.2 i (by omega)]
    have : done[i]? = none := by simp [h.1]; omega
    simp [Array.getD_eq_getD_getElem?, this]
theorem DoneM.getT {ops : List Oper} {done : Array Bool} {m : Nat} (h : DoneM ops done m) {i : Nat} (hi : i < ops.length) : done.getD i true = m.testBit i := by
  simp [Array.getD_eq_getD_getElem?, h.2.1 i hi]
theorem DoneM.set {ops : List Oper} {done : Array Bool} {m : Nat} (h : DoneM ops done m) {i : Nat} (hi : i < ops.length) : DoneM ops (done.setIfInBounds i true) (Nat.lor m (Nat.pow 2 i)) := by
  refine ⟨by simp [h.1], fun j hj => ?_, fun j hj => ?_⟩
  · rw [lor_bit, bit_pow, Array.getElem?_setIfInBounds]
    by_cases e : i = j
    · subst e; simp [h.1, hi]
    · rw [if_neg e, h.2.1 j hj]; simp [e]
  · rw [lor_bit, bit_pow, h.2.2 j hj]; simp; omega
theorem ready_iff {ops : List Oper} {es : List OE} {done : Array Bool} {m : Nat} (hes : EsOk ops es) (hd : DoneM ops done m) {i : Nat} : i ∈ readyL ops done ↔ ∃ e ∈ readyM es m, e.i = i := by
  unfold readyL
  rw [mem_ready]
  constructor
  · rintro ⟨h1, o, h2, h3⟩
    have hi : i < ops.length := by
      have := (Array.getElem?_eq_some_iff.1 h2).1
      simpa using this
    obtain ⟨e, _, he, rfl⟩ := hes.get hi
    refine ⟨e, readyM_mem.2 ⟨he, ?_, ?_⟩, rfl⟩
    · rw [← hd.getT hi]; exact h1
    · obtain ⟨o', ho', hA, _⟩ := (hes.ok e he).op
      have : o' = o := by
        have h2' : ops[e.i]? = some o := by simpa using h2
        rw [h2'] at ho'; exact (Option.some.inj ho').symm
      subst this
      rw [subM_eq, hA]
      intro j hj
      obtain ⟨x, hx, hb, rfl⟩ := mA_bit.1 hj
      rw [← hd.getF]; exact h3 x (by simpa using hx) hb
  · rintro ⟨e, he, rfl⟩
    obtain ⟨h1, h2, h3⟩ := readyM_mem.1 he
    obtain ⟨o, ho, hA, _⟩ := (hes.ok e h1).op
    have hi := (List.getElem?_eq_some_iff.1 ho).1
    refine ⟨by rw [hd.getT hi]; exact h2, o, by simpa using ho, fun x hx hb => ?_⟩
    rw [hd.getF]
    rw [subM_eq, hA] at h3
    exact h3 x.on (mA_bit.2 ⟨x, by simpa using hx, hb, rfl⟩)

/-! ### each slot is written once, and read behind that -/
def pairOk (e f : OE) : Bool := OE.rec (fun i _ _ R D _ => OE.rec (fun _ A _ R' D' _ => both (disM D' (Nat.lor D R)) (Bool.rec (bitQ A i) true (disM R' D))) f) e
def ssaOk (es : List OE) : Bool := List.rec true (fun e t ih => both (allL (pairOk e) t) ih) es
theorem ssaOk_pair : ∀ {es : List OE}, ssaOk es = true → es.Pairwise fun e f => pairOk e f = true
  | [], _ => .nil
  | e :: es, h => by
    obtain ⟨h1, h2⟩ := both_eq.1 (show both (allL (pairOk e) es) (ssaOk es) = true from h)
    exact .cons (fun f hf => allL_spec h1 f hf) (ssaOk_pair h2)
theorem pairOk_spec {e f : OE} (h : pairOk e f = true) : (∀ d, f.D.testBit d = true → e.D.testBit d = false ∧ e.R.testBit d = false) ∧ (f.A.testBit e.i = true ∨ ∀ d, ¬ (f.R.testBit d = true ∧ e.D.testBit d = true)) := by
  obtain ⟨i, A, G, R, D, c⟩ := e
  obtain ⟨i', A', G', R', D', c'⟩ := f
  obtain ⟨h1, h2⟩ := both_eq.1 (show both (disM D' (Nat.lor D R)) (Bool.rec (bitQ A' i) true (disM R' D)) = true from h)
  refine ⟨fun d hd => ?_, ?_⟩
  · have := disM_spec h1 d
    rw [lor_bit] at this
    have hd : D'.testBit d = true := hd
    rw [hd] at this
    show D.testBit d = false ∧ R.testBit d = false
    cases q : D.testBit d <;> cases q' : R.testBit d <;> simp [q, q'] at this ⊢
  · have h2 : (Bool.rec (bitQ A' i) true (disM R' D) : Bool) = true := h2
    cases q : disM R' D with
    | true => exact .inr fun d => disM_spec q d
    | false => rw [q] at h2; left; rw [← bitQ_eq]; exact h2
theorem free_of_ssa {ops : List Oper} {es : List OE} {done : Array Bool} {m : Nat} (hes : EsOk ops es) (hd : DoneM ops done m) (hs : ssaOk es = true) {e : OE} (he : e ∈ readyM es m) : Region.free .any ops.toArray done e.i = true := by
  obtain ⟨h1, h2, h3⟩ := readyM_mem.1 he
  obtain ⟨o, ho, hA, hR, hD⟩ := (hes.ok e h1).op
  have hi := (List.getElem?_eq_some_iff.1 ho).1
  unfold Region.free
  rw [show ops.toArray[e.i]? = some o by simpa using ho]
  simp only [List.all_eq_true, List.mem_range]
  intro j hj
  have hj : j < ops.length := by simpa using hj
  obtain ⟨f, hf, hfm, hfi⟩ := hes.get hj
  obtain ⟨o', ho', hA', hR', hD'⟩ := (hes.ok f hfm).op
  rw [hfi] at ho'
  rw [show ops.toArray[j]? = some o' by simpa using ho', hd.getT hj]
  simp only [Bool.or_eq_true, beq_iff_eq]
  by_cases hji : j = e.i
  · exact .inl (.inl hji)
  cases hdone : m.testBit j with
  | true => exact .inl (.inr rfl)
  | false =>
    right
    have hee : es[e.i]? = some e := by
      obtain ⟨e', q1, q2, q3⟩ := hes.get hi
      obtain ⟨n, hn, hn'⟩ := List.getElem_of_mem h1
      have : es[n]? = some e := by simp [hn, hn']
      have := hes.at' n e this
      rw [this]; simp [hn, hn']
    have hp := List.pairwise_iff_getElem.1 (ssaOk_pair hs)
    have gl : ∀ {n : Nat} {x : OE}, es[n]? = some x → ∃ h : n < es.length, es[n] = x := fun h => List.getElem?_eq_some_iff.1 h
    obtain ⟨l1, g1⟩ := gl hee
    obtain ⟨l2, g2⟩ := gl hf
    have looks : ∀ {x : Oper} {R d : Nat}, R = mT (x.looksAt ops.toArray) → R.testBit d = false → (x.looksAt ops.toArray).contains d = false := by
      intro x R d hr hb
      cases q : (x.looksAt ops.toArray).contains d with
      | false => rfl
      | true =>
        rw [List.contains_iff_mem] at q
        rw [hr, mT_bit.2 q] at hb; cases hb
    have apart : (∀ d, e.D.testBit d = true → f.R.testBit d = false ∧ f.D.testBit d = false) → (∀ d, f.D.testBit d = true → e.R.testBit d = false) → o.apart ops.toArray o' = true := fun a1 a2 => by
      unfold Oper.apart
      simp only [Bool.and_eq_true]
      constructor
      · cases hdst : o.dst with
        | none => rfl
        | some d =>
          have hb : e.D.testBit d = true := by rw [hD, dM_bit]; exact hdst
          obtain ⟨b1, b2⟩ := a1 d hb
          simp only [Bool.and_eq_true, Bool.not_eq_true', bne_iff_ne, ne_eq]
          refine ⟨looks hR' b1, fun q => ?_⟩
          rw [hD', dM_bit.2 q] at b2; cases b2
      · cases hdst : o'.dst with
        | none => rfl
        | some d =>
          have hb : f.D.testBit d = true := by rw [hD', dM_bit]; exact hdst
          simp only [Bool.not_eq_true']
          exact looks hR (a2 d hb)
    rcases Nat.lt_or_gt_of_ne hji with hlt | hgt
    · -- j ahead of e
      have := hp j e.i l2 l1 hlt
      rw [g1, g2] at this
      obtain ⟨b1, b2⟩ := pairOk_spec this
      rcases b2 with b2 | b2
      · rw [hfi] at b2
        have := (subM_eq.1 h3) j b2
        rw [hdone] at this; cases this
      · right
        refine apart (fun d hd => ⟨(b1 d hd).2, (b1 d hd).1⟩) fun d hd => ?_
        cases q : e.R.testBit d with
        | false => rfl
        | true => exact absurd ⟨q, hd⟩ (b2 d)
    · have := hp e.i j l1 l2 hgt
      rw [g1, g2] at this
      obtain ⟨b1, b2⟩ := pairOk_spec this
      rcases b2 with b2 | b2
      · left
        rw [hA'] at b2
        obtain ⟨x, hx, hb, hxi⟩ := mA_bit.1 b2
        rw [Array.any_eq_true']
        exact ⟨x, by simpa using hx, by simp [hb, hxi]⟩
      · right
        refine apart (fun d hd => ⟨?_, ?_⟩) fun d hd => (b1 d hd).2
        · cases q : f.R.testBit d with
          | false => rfl
          | true => exact absurd ⟨q, hd⟩ (b2 d)
        · cases q : f.D.testBit d with
          | false => rfl
          | true => have := (b1 d q).1; rw [hd] at this; cases this

/-! ### plans -/
def hasOE (l : List OE) (i : Nat) : Bool := List.rec false (fun e _ ih => OE.rec (fun j _ _ _ _ _ => Bool.rec ih true (Nat.beq j i)) e) l
theorem hasOE_spec : ∀ {l : List OE} {i : Nat}, hasOE l i = true → ∃ e ∈ l, e.i = i
  | ⟨j, A, G, R, D, c⟩ :: l, i, h => by
    have h : (Bool.rec (hasOE l i) true (Nat.beq j i) : Bool) = true := h
    cases q : Nat.beq j i with
    | true => exact ⟨_, List.mem_cons_self, Nat.eq_of_beq_eq_true q⟩
    | false =>
      rw [q] at h
      obtain ⟨e, h1, h2⟩ := hasOE_spec h
      exact ⟨e, List.mem_cons_of_mem _ h1, h2⟩
def noOE (l : List OE) : Bool := List.rec true (fun _ _ _ => false) l
def okPlM (es : List OE) (p : Pl) : Nat → Nat → List Nat → List Nat → Bool :=
  Pl.rec (fun _ m _ _ => noOE (readyM es m))
    (fun i _ ih n m held _ => Nat.rec false (fun n _ => both (hasOE (readyM es m) i) (forceN (Nat.lor m (Nat.pow 2 i)) fun m' => ih n m' held [])) n)
    (fun i _ ih n m held _ => Nat.rec false (fun n _ => both (hasOE (readyM es m) i) (forceN (Nat.lor m (Nat.pow 2 i)) fun m' => ih n m' (i :: held) [])) n)
    (fun i chk _ _ ihp ihq n m held seen => Nat.rec false (fun n' _ => both (hasOE (readyM es m) i) (forceN (findG es i) fun G => both (allL (fun h => Bool.rec (bitQ G h) true (hasN chk h)) held) (both (forceN (Nat.lor m (Nat.pow 2 i)) fun m' => ihp n' m' held []) (ihq n m held (i :: seen))))) n)
    (fun n m _ seen => Nat.rec false (fun _ _ => both (notB (noOE (readyM es m))) (allL (fun e => hasN seen e.i) (readyM es m))) n) p
theorem hasN_of {l : List Nat} {i : Nat} (h : i ∈ l) : hasN l i = true := by
  induction l with
  | nil => cases h
  | cons x l ih =>
    show (Bool.rec (hasN l i) true (Nat.beq x i) : Bool) = true
    cases q : Nat.beq x i with
    | true => rfl
    | false =>
      rcases List.mem_cons.1 h with rfl | h
      · simp at q
      · exact ih h
theorem nil_iff {ops : List Oper} {es : List OE} {done : Array Bool} {m : Nat} (hes : EsOk ops es) (hd : DoneM ops done m) : isNilL (readyL ops done) = noOE (readyM es m) := by
  have h := @ready_iff ops es done m hes hd
  cases q : readyL ops done with
  | nil =>
    cases q' : readyM es m with
    | nil => rfl
    | cons e l => have := (h (i := e.i)).2 ⟨e, by rw [q']; exact List.mem_cons_self, rfl⟩; rw [q] at this; cases this
  | cons i l =>
    cases q' : readyM es m with
    | nil => obtain ⟨e, h1, _⟩ := (h (i := i)).1 (by rw [q]; exact List.mem_cons_self); rw [q'] at h1; cases h1
    | cons e l => rfl
theorem allL_of {α : Type} {p : α → Bool} : ∀ {l : List α}, (∀ x ∈ l, p x = true) → allL p l = true
  | [], _ => rfl
  | x :: l, h => both_eq.2 ⟨h x List.mem_cons_self, allL_of fun y hy => h y (List.mem_cons_of_mem _ hy)⟩
theorem okPlM_ok {ops : List Oper} {es : List OE} (hes : EsOk ops es) (hs : ssaOk es = true) : ∀ {p : Pl} {n m : Nat} {done : Array Bool} {held seen : List Nat}, DoneM ops done m → okPlM es p n m held seen = true → okPl ops p n done held seen = true
  | .fin, n, m, done, held, seen, hd, h => by
    show isNilL (readyL ops done) = true
    rw [nil_iff hes hd]; exact h
  | .take i p, 0, m, done, held, seen, hd, h => by cases h
  | .take i p, n + 1, m, done, held, seen, hd, h => by
    obtain ⟨h1, h2⟩ := both_eq.1 (show both (hasOE (readyM es m) i) (forceN (Nat.lor m (Nat.pow 2 i)) fun m' => okPlM es p n m' held []) = true from h)
    rw [forceN_eq] at h2
    obtain ⟨e, he, rfl⟩ := hasOE_spec h1
    have hi : e.i < ops.length := by
      obtain ⟨o, ho, _⟩ := (hes.ok e (readyM_mem.1 he).1).op
      exact (List.getElem?_eq_some_iff.1 ho).1
    show both (hasN (readyL ops done) e.i) (both (Region.free .any ops.toArray done e.i) (okPl ops p n (done.setIfInBounds e.i true) held [])) = true
    exact both_eq.2 ⟨hasN_of ((ready_iff hes hd).2 ⟨e, he, rfl⟩), both_eq.2 ⟨free_of_ssa hes hd hs he, okPlM_ok hes hs (hd.set hi) h2⟩⟩
  | .hold i p, 0, m, done, held, seen, hd, h => by cases h
  | .hold i p, n + 1, m, done, held, seen, hd, h => by
    obtain ⟨h1, h2⟩ := both_eq.1 (show both (hasOE (readyM es m) i) (forceN (Nat.lor m (Nat.pow 2 i)) fun m' => okPlM es p n m' (i :: held) []) = true from h)
    rw [forceN_eq] at h2
    obtain ⟨e, he, rfl⟩ := hasOE_spec h1
    have hi : e.i < ops.length := by
      obtain ⟨o, ho, _⟩ := (hes.ok e (readyM_mem.1 he).1).op
      exact (List.getElem?_eq_some_iff.1 ho).1
    show both (hasN (readyL ops done) e.i) (both (Region.free .any ops.toArray done e.i) (okPl ops p n (done.setIfInBounds e.i true) (e.i :: held) [])) = true
    exact both_eq.2 ⟨hasN_of ((ready_iff hes hd).2 ⟨e, he, rfl⟩), both_eq.2 ⟨free_of_ssa hes hd hs he, okPlM_ok hes hs (hd.set hi) h2⟩⟩
  | .alt i chk p q, 0, m, done, held, seen, hd, h => by cases h
  | .alt i chk p q, n + 1, m, done, held, seen, hd, h => by
    obtain ⟨h1, h2⟩ := both_eq.1 (show both (hasOE (readyM es m) i) (forceN (findG es i) fun G => both (allL (fun h => Bool.rec (bitQ G h) true (hasN chk h)) held) (both (forceN (Nat.lor m (Nat.pow 2 i)) fun m' => okPlM es p n m' held []) (okPlM es q (n + 1) m held (i :: seen)))) = true from h)
    rw [forceN_eq] at h2
    obtain ⟨h2, h3⟩ := both_eq.1 h2
    obtain ⟨h3, h4⟩ := both_eq.1 h3
    rw [forceN_eq] at h3
    obtain ⟨e, he, rfl⟩ := hasOE_spec h1
    have hi : e.i < ops.length := by
      obtain ⟨o, ho, _⟩ := (hes.ok e (readyM_mem.1 he).1).op
      exact (List.getElem?_eq_some_iff.1 ho).1
    show both (hasN (readyL ops done) e.i) (both (allL (fun h => Bool.rec (anc ops.toArray ops.toArray.size e.i h) true (hasN chk h)) held) (both (okPl ops p n (done.setIfInBounds e.i true) held []) (okPl ops q (n + 1) done held (e.i :: seen)))) = true
    refine both_eq.2 ⟨hasN_of ((ready_iff hes hd).2 ⟨e, he, rfl⟩), both_eq.2 ⟨allL_of fun x hx => ?_, both_eq.2 ⟨okPlM_ok hes hs (hd.set hi) h3, okPlM_ok hes hs hd h4⟩⟩⟩
    have hx' : (Bool.rec (bitQ (findG es e.i) x) true (hasN chk x) : Bool) = true := allL_spec h2 x hx
    cases q : hasN chk x with
    | true => rfl
    | false =>
      rw [q] at hx'
      have hx' : bitQ (findG es e.i) x = true := hx'
      rw [bitQ_eq] at hx'
      obtain ⟨f, hf, hfi, hG⟩ := findG_spec hes.ok hx'
      have := (hes.ok f hf).anc x hG
      rw [hfi] at this
      show anc ops.toArray ops.toArray.size e.i x = true
      exact anc_mono this (by simp; omega)
  | .stop, 0, m, done, held, seen, hd, h => by cases h
  | .stop, n + 1, m, done, held, seen, hd, h => by
    obtain ⟨h1, h2⟩ := both_eq.1 (show both (notB (noOE (readyM es m))) (allL (fun e => hasN seen e.i) (readyM es m)) = true from h)
    show both (notB (isNilL (readyL ops done))) (allL (hasN seen) (readyL ops done)) = true
    refine both_eq.2 ⟨by rw [nil_iff hes hd]; exact h1, allL_of fun i hi => ?_⟩
    obtain ⟨e, he, rfl⟩ := (ready_iff hes hd).1 hi
    exact allL_spec h2 e he
def opPlain (op : Op) : Bool := match op with
  | .select _ _ => false
  | .defer _ => false
  | _ => true
def plainL (ops : List Oper) : Bool := List.rec true (fun o _ ih => both (Oper.rec (fun _ op _ _ _ _ => opPlain op) o) ih) ops
theorem plainL_spec : ∀ {ops : List Oper}, plainL ops = true → ∀ o ∈ ops, opPlain o.op = true
  | [], _ => by simp
  | ⟨d, op, ty, pos, af, g⟩ :: ops, h => by
    obtain ⟨h1, h2⟩ := both_eq.1 (show both (opPlain op) (plainL ops) = true from h)
    intro o ho
    rcases List.mem_cons.1 ho with rfl | ho
    · exact h1
    · exact plainL_spec h2 o ho
/-- The first that may be taken. -/
def pickM (l : List OE) {X : Type} (k : Nat → Nat → X) (none : X) : X := List.rec none (fun e _ ih => OE.rec (fun i _ _ _ _ c => Nat.rec (k i 0) (fun m _ => Nat.rec (k i 1) (fun _ _ => ih) m) c) e) l
def chkM (G : Nat) (held : List Nat) : List Nat := List.rec [] (fun h _ ih => Bool.rec (h :: ih) ih (bitQ G h)) held
def planM (es : List OE) (n : Nat) : Nat → List Nat → Pl := Nat.rec (fun _ _ => .fin) (fun _ ih m held => pickM (readyM es m)
    (fun i c => Nat.rec (.take i (forceX (Nat.lor m (Nat.pow 2 i)) fun m' => ih m' held)) (fun _ _ => .hold i (forceX (Nat.lor m (Nat.pow 2 i)) fun m' => ih m' (i :: held))) c)
    (List.rec Pl.fin (fun e l _ => List.rec Pl.stop (fun e _ acc => OE.rec (fun i _ G _ _ _ => Pl.alt i (chkM G held) (forceX (Nat.lor m (Nat.pow 2 i)) fun m' => ih m' held) acc) e) (e :: l)) (readyM es m))) n
def planFast (T : Tabs P) (ops : List Oper) : Pl := prepX T ops ops 0 [] fun es => planM es ops.length 0 []
def okFast (T : Tabs P) (ops : List Oper) : Bool := prepX T ops ops 0 [] fun es => both (plainL ops) (both (ssaOk es) (okPlM es (planFast T ops) ops.length 0 [] []))
theorem okFast_spec {T : Tabs P} {ops : List Oper} (h : okFast T ops = true) : okPlan ops (planFast T ops) = true := by
  obtain ⟨es, h1, h2, h3, h4⟩ := prepX_spec (pre := []) (all := ops) (rest := ops) (acc := []) h rfl (by simp)
  obtain ⟨h5, h6⟩ := both_eq.1 h1
  obtain ⟨h6, h7⟩ := both_eq.1 h6
  have hes : EsOk ops es := ⟨h2, h3, fun j e hj => by have := h4 j e hj; simpa using this⟩
  have hd : DoneM ops (Array.replicate ops.length false) 0 := ⟨by simp, fun i hi => by simp [hi], fun i _ => by simp⟩
  have hp := plainL_spec h5
  refine both_eq.2 ⟨?_, both_eq.2 ⟨?_, okPlM_ok hes h6 hd h7⟩⟩
  · unfold Region.noSelect
    rw [Array.all_eq_true']
    intro o ho
    have := hp o (by simpa using ho)
    cases q : o.op <;> first | rfl | (rw [q] at this; cases this)
  · unfold noDefer
    rw [List.all_eq_true]
    intro o ho
    have := hp o (by simpa using ho)
    cases q : o.op <;> first | rfl | (rw [q] at this; cases this)
/-- A statement's plan. -/
def plan2 (T : Tabs P) (ops : List Oper) : Pl := Bool.rec (planOf T ops) (planFast T ops) (okFast T ops)
def okPlan2 (T : Tabs P) (ops : List Oper) : Bool := Bool.rec (okPlan ops (planOf T ops)) true (okFast T ops)
theorem okPlan2_spec {T : Tabs P} {ops : List Oper} (h : okPlan2 T ops = true) : okPlan ops (plan2 T ops) = true := by
  unfold okPlan2 at h
  unfold plan2
  cases q : okFast T ops with
  | true => exact okFast_spec q
  | false => rw [q] at h; exact h
end
end Go.Ev
set_option linter.unusedSimpArgs false
set_option linter.unusedVariables false
namespace Go.Ev
open Go.Sl
noncomputable section
variable {P : Program}
/-- Those that ask nothing of the world. -/
def opA (P : Program) (T : Tabs P) (fr : Tr AV) (op : Op) (k : AV → Bool) : Bool := match op with
  | .move x => argK T fr x k
  | .assign x => argK T fr x k
  | .pick c x y => pickK T fr c x y k
  | .build t parts => buildK P T fr t parts k
  | .nilCheck x => nilCheckK T fr x k
  | .sliceToArrayPointer t x => arrPtrK T fr t x k
  | .binOp op tx x y _ => binXK P T fr op tx x y k
  | .unOp op _ x => unK P T fr op x k
  | .makeInterface t x => mkIfcK T fr t x k
  | .makeFunc f xs ys => mkFnK T fr f xs ys k
  | .slice t x lo hi mx => sliceK P T fr t x lo hi mx k
  | .fieldAddr t x f => fieldAddrK T fr t x f k
  | .field t x f => fieldK T fr t x f k
  | .indexAddr t x y => indexAddrK T fr t x y k
  | .index t x y => indexK T fr t x y k
  | .typeAssert x _ t ok => assertK P T fr x t ok k
  | .extract x i => extractK T fr x i k
  | .call c => (match c with
    | ⟨.builtin .min, xs, _⟩ => minK P T fr xs k
    | ⟨.builtin .max, xs, _⟩ => maxK P T fr xs k
    | _ => false)
  | _ => false
/-- Those that look at it. -/
def opB (P : Program) (T : Tabs P) (fr : Tr AV) (M : Mem) (op : Op) (k : AV → Bool) : Bool := match op with
  | .load t x => loadK T fr M t x k
  | .lookup t x y ok => lookupK P T fr M t x y ok k
  | .entry it => entryK T fr M it k
  | .convert ts td x => convK P T fr M ts td x k
  | .call c => (match c with
    | ⟨.builtin .len, xs, ts⟩ => (match xs, ts with
      | ⟨[x]⟩, ⟨[t]⟩ => lenK T fr M t x k
      | _, _ => false)
    | _ => false)
  | _ => false
section
variable {T : Tabs P} {c : Cn} {ρ : Env} {fr : Tr AV} {ds : List AD} {M : Mem} {nx : Nat} {a : Act} {w : World}
theorem opA_spec {op : Op} {k : AV → Bool} (h : opA P T fr op k = true) (s : Rel T c ρ fr ds M nx a w) : Yes P ρ a (fun _ => True) op k := by
  cases op with
  | move x => exact moveK h s
  | assign x => exact assignK h s
  | pick => exact pickK_spec h s
  | build => exact buildK_spec h s
  | sliceToArrayPointer => exact arrPtrK_spec h s
  | nilCheck => exact nilCheckK_spec h s
  | binOp => exact binXK_spec h s
  | unOp => exact unK_spec h s
  | makeInterface => exact mkIfcK_spec h s
  | makeFunc => exact mkFnK_spec h s
  | slice => exact sliceK_spec h s
  | fieldAddr => exact fieldAddrK_spec h s
  | field => exact fieldK_spec h s
  | indexAddr => exact indexAddrK_spec h s
  | index => exact indexK_spec h s
  | typeAssert => exact assertK_spec h s
  | extract => exact extractK_spec h s
  | call cl =>
    obtain ⟨cal, xs, ts⟩ := cl
    cases cal with
    | builtin b => cases b <;> first | cases h | exact minK_spec h s | exact maxK_spec h s
    | value f => cases h
    | invoke r m => cases h
  | _ => cases h
theorem opB_spec {op : Op} {k : AV → Bool} (h : opB P T fr M op k = true) (s : Rel T c ρ fr ds M nx a w) : Yes P ρ a (· = w) op k := by
  cases op with
  | load => exact loadK_spec h s
  | lookup => exact lookupK_spec h s
  | entry => exact entryK_spec h s
  | convert => exact convK_spec h s
  | call cl =>
    obtain ⟨cal, xs, ts⟩ := cl
    cases cal with
    | builtin b =>
      cases b <;> try (cases h; done)
      obtain ⟨xs⟩ := xs
      obtain ⟨ts⟩ := ts
      match xs, ts, h with
      | [x], [t], h => exact lenK_spec h s
    | value f => cases h
    | invoke r m => cases h
  | _ => cases h
end

/-! ### what is held -/
/-- Held: its number, the frame and the deferred calls of its time, what it was. -/
inductive Hl where
  | mk (i : Nat) (fr : Tr AV) (ds : List AD) (op : Op) (v : AV)
structure HEnt where
  i : Nat
  a : Act
  o : Oper
  r : Value
def HEnt.R (P : Program) (h : HEnt) (w : World) : Prop := (execOp h.a.eval h.o).run P w = .ok (.value h.r) w
def Sof (P : Program) (ops : List Oper) (HL : List HEnt) (j : Nat) (w w' : World) : Prop := ∀ h ∈ HL, anc ops.toArray ops.toArray.size j h.i = false → h.R P w → h.R P w'
def HlOk (c : Cn) (ρ : Env) : Hl → HEnt → Prop
  | .mk i fr ds op v, h => h.i = i ∧ h.o.op = op ∧ h.a.tmps.size = c.N ∧ Fk ρ fr h.a.tmps ∧ renD ρ ds = some h.a.defers ∧ ren ρ v = some h.r
theorem HlOk.ext {c : Cn} {ρ ρ' : Env} (x : Ext ρ ρ') : ∀ {e : Hl} {h : HEnt}, HlOk c ρ e h → HlOk c ρ' e h
  | .mk i fr ds op v, h, ⟨h1, h2, h3, h4, h5, h6⟩ => ⟨h1, h2, h3, h4.ext x, renD_ext x h5, ren_ext x h6⟩
theorem HlOk.more {c : Cn} {ρ ρ' : Env} (x : Le ρ ρ') : ∀ {e : Hl} {h : HEnt}, HlOk c ρ e h → HlOk c ρ' e h
  | .mk i fr ds op v, h, ⟨h1, h2, h3, h4, h5, h6⟩ => ⟨h1, h2, h3, h4.more x, renD_le x h5, ren_le x h6⟩
theorem all2_more {c : Cn} {ρ ρ' : Env} (x : Le ρ ρ') : ∀ {hl : List Hl} {HL : List HEnt}, All2 (HlOk c ρ) hl HL → All2 (HlOk c ρ') hl HL
  | [], [], _ => trivial
  | e :: hl, h :: HL, p => ⟨p.1.more x, all2_more x p.2⟩
  | [], _ :: _, p => p.elim
  | _ :: _, [], p => p.elim
theorem all2_ext {c : Cn} {ρ ρ' : Env} (x : Ext ρ ρ') : ∀ {hl : List Hl} {HL : List HEnt}, All2 (HlOk c ρ) hl HL → All2 (HlOk c ρ') hl HL
  | [], [], _ => trivial
  | e :: hl, h :: HL, p => ⟨p.1.ext x, all2_ext x p.2⟩
  | [], _ :: _, p => p.elim
  | _ :: _, [], p => p.elim
def againK (P : Program) (T : Tabs P) (chk : List Nat) (hl : List Hl) (M : Mem) (k : Bool) : Bool := List.rec k (fun e _ ih => Hl.rec (fun i fr _ op v => Bool.rec ih (opB P T fr M op fun v' => both (eqA v' v) ih) (hasN chk i)) e) hl
theorem againK_spec {T : Tabs P} {chk : List Nat} {M : Mem} {k : Bool} {c : Cn} {ρ : Env} {w : World} (hr : Rep ρ M c.hF w) (hm : Same c.w0 w) (hg : ∀ g i, T.gl g = some i → ρ[i]? = some (g, 0, 0)) :
    ∀ {hl : List Hl} {HL : List HEnt}, againK P T chk hl M k = true → All2 (HlOk c ρ) hl HL → k = true ∧ ∀ h ∈ HL, hasN chk h.i = true → h.R P w
  | [], [], h, _ => ⟨h, by simp⟩
  | [], _ :: _, _, p => p.elim
  | _ :: _, [], _, p => p.elim
  | .mk i fr ds op v :: hl, h :: HL, g, p => by
    obtain ⟨⟨rfl, h2, h3, h4, h5, h6⟩, p⟩ := p
    have g : (Bool.rec (againK P T chk hl M k) (opB P T fr M op fun v' => both (eqA v' v) (againK P T chk hl M k)) (hasN chk h.i) : Bool) = true := g
    cases q : hasN chk h.i with
    | false =>
      rw [q] at g
      obtain ⟨g1, g2⟩ := againK_spec hr hm hg g p
      refine ⟨g1, fun h' hh hq => ?_⟩
      rcases List.mem_cons.1 hh with rfl | hh
      · rw [q] at hq; cases hq
      · exact g2 h' hh hq
    | true =>
      rw [q] at g
      obtain ⟨v', r', q1, q2, q3⟩ := opB_spec (c := c) (ρ := ρ) (ds := ds) (nx := ρ.length) (a := h.a) (w := w) (k := fun v' => both (eqA v' v) (againK P T chk hl M k)) g ⟨h3, h4, h5, hr, rfl, hm, hg⟩
      obtain ⟨q4, q5⟩ := both_eq.1 (show both (eqA v' v) (againK P T chk hl M k) = true from q2)
      obtain rfl := eqA_spec q4
      rw [h6] at q1; cases q1
      obtain ⟨g1, g2⟩ := againK_spec hr hm hg q5 p
      refine ⟨g1, fun h' hh hq => ?_⟩
      rcases List.mem_cons.1 hh with rfl | hh
      · obtain ⟨hi, ha, ho, hv⟩ := h'
        obtain ⟨d, op', ty, pos, af, gd⟩ := ho
        obtain rfl := h2
        exact yrun (q3 w rfl ty) d pos af gd
      · exact g2 h' hh hq
end
end Go.Ev
set_option linter.unusedSimpArgs false
set_option linter.unusedVariables false
namespace Go.Ev
open Go.Sl
noncomputable section
variable {P : Program}
abbrev putAll (ps : List Tmp) (rs : List Value) (T : Array Value) : Array Value := (ps.zip rs).foldl (fun (t : Array Value) (x : Tmp × Value) => t.setIfInBounds x.1 x.2) T
def setPsK (N : Nat) (ps : List Tmp) : List AV → Tr AV → (Tr AV → Bool) → Bool := List.rec (fun vs fr k => List.rec (k fr) (fun _ _ _ => false) vs) (fun p _ ih vs fr k => List.rec false (fun v vs' _ => both (Nat.blt p N) (fr.set p v fun fr' => ih vs' fr' k)) vs) ps
theorem setPsK_spec {ρ : Env} {N : Nat} : ∀ {ps : List Tmp} {vs : List AV} {rs : List Value} {fr : Tr AV} {k : Tr AV → Bool} {T : Array Value}, setPsK N ps vs fr k = true → RL ρ vs rs → T.size = N → Fk ρ fr T →
    ∃ fr', k fr' = true ∧ rs.length = ps.length ∧ (putAll ps rs T).size = N ∧ Fk ρ fr' (putAll ps rs T)
  | [], [], rs, fr, k, T, h, hv, hN, hs => by obtain rfl := hv.outNil; exact ⟨fr, h, rfl, hN, hs⟩
  | [], _ :: _, rs, fr, k, T, h, hv, hN, hs => by cases h
  | _ :: _, [], rs, fr, k, T, h, hv, hN, hs => by cases h
  | p :: ps, v :: vs, rs, fr, k, T, h, hv, hN, hs => by
    obtain ⟨r, rs', rfl, hr, hv'⟩ := hv.out
    obtain ⟨h1, h2⟩ := both_eq.1 (show both (Nat.blt p N) (fr.set p v fun fr' => setPsK N ps vs fr' k) = true from h)
    rw [Nat.blt_eq] at h1
    obtain ⟨fr1, h3, h4⟩ := Tr.set_spec h2
    obtain ⟨fr', g1, g2, g3, g4⟩ := setPsK_spec (T := T.setIfInBounds p r) h4 hv' (by simpa using hN) (hs.set h3 (by omega) hr)
    exact ⟨fr', g1, by simp [g2], g3, g4⟩
section
variable {T : Tabs P} {c : Cn} {ρ : Env} {fr : Tr AV} {ds : List AD} {M : Mem} {nx : Nat} {a : Act} {w : World}
theorem loop_turn {i : Nat} {st st' : LoopState} {pd pd' : Option Code} {fn : FuncId} {fr0 : Tr AV} {N0 : Nat} {ps : List Tmp} {as bd : Code} {D : Nat} {k : Mem → Nat → Bool} (h : turnK M nx i (.loop st' pd' fn fr0 N0 ps as bd D) k = true) (s : Rel T c ρ fr ds M nx a w) (hi : M.get i = some (.loop st pd fn fr0 N0 ps as bd D)) :
    ∃ (e : Nat × Nat × Nat) (r : Loop) (M' : Mem), ρ[i]? = some e ∧ w.heap[e.1]? = some (.loop r) ∧ r.state = st ∧ r.pending = pd ∧ k M' ρ.length = true ∧ Rep ρ M' c.hF (w.putObj e.1 (.loop { r with state := st', pending := pd' })) := by
  obtain ⟨e, he, ⟨T0, e', fn', q1, q2, q3, q4⟩, _⟩ := s.rep.own _ _ hi
  obtain ⟨M', k1, k2⟩ := turnK_spec (w' := w.putObj e.1 (.loop ⟨st', pd', fn', T0, ps.toArray, as, bd, e'.1⟩)) h s hi rfl rfl he (fun b hb => World.putObj_heap_other hb) (by
    rw [World.putObj_heap_same (mem_lt (w := w) q4)]
    exact ⟨T0, e', fn', q1, q2, q3, rfl⟩)
  exact ⟨e, _, M', he, q4, rfl, rfl, k1, k2⟩
end
def endK (M : Mem) (nx : Nat) (i : Nat) (st : LoopState) (pd : Option Code) (k : Mem → Nat → Bool) : Bool := Option.rec false (fun ck => match ck with
  | .loop _ _ fn fr N ps as bd D => turnK M nx i (.loop st pd fn fr N ps as bd D) k
  | _ => false) (M.get i)
theorem endK_spec {T : Tabs P} {c : Cn} {ρ : Env} {fr : Tr AV} {ds : List AD} {M : Mem} {nx : Nat} {a : Act} {w : World} {i : Nat} {st : LoopState} {pd : Option Code} {k : Mem → Nat → Bool} (h : endK M nx i st pd k = true) (s : Rel T c ρ fr ds M nx a w) :
    ∃ (e : Nat × Nat × Nat) (r : Loop) (M' : Mem), ρ[i]? = some e ∧ w.heap[e.1]? = some (.loop r) ∧ k M' ρ.length = true ∧ Rep ρ M' c.hF (w.putObj e.1 (.loop { r with state := st, pending := pd })) := by
  obtain ⟨ck, h1, h⟩ := opt_rec h
  cases ck <;> try (cases h; done)
  obtain ⟨e, r, M', g1, g2, _, _, g3, g4⟩ := loop_turn h s h1
  exact ⟨e, r, M', g1, g2, g3, g4⟩
/-- One round. -/
def roundK (ih : EvT) (i : Nat) (vs : List AV) (M : Mem) (nx : Nat) (k : Oc → Mem → Nat → Bool) : Bool := Option.rec false (fun ck => match ck with
  | .loop .ready pd fn fr0 N0 ps as bd D => setPsK N0 ps vs fr0 fun fr1 => ih as N0 true fr1 [] M nx fun x fr2 ds2 M2 nx2 => match x with
    | .normal => List.rec (Option.rec false (fun ck2 => match ck2 with
      | .loop .ready pd2 fn2 fr02 N02 ps2 as2 bd2 D2 => turnK M2 nx2 i (.loop .busy pd2 fn2 fr02 N02 ps2 as2 bd2 D2) fun M3 nx3 => ih bd N0 true fr2 [] M3 nx3 fun y _ _ M4 nx4 => match y with
        | .normal => endK M4 nx4 i .ready none (k (.ret (.bool true)))
        | .ret => endK M4 nx4 i .done (some .ret) (k (.ret (.bool false)))
        | .exit id => endK M4 nx4 i .done (some (.exit id)) (k (.ret (.bool false)))
        | .pan _ => false
      | _ => false) (M2.get i)) (fun _ _ _ => false) ds2
    | _ => false
  | _ => false) (M.get i)
theorem roundK_spec {T : Tabs P} {ih : EvT} (hih : Good T ih) {i : Nat} {vs : List AV} {M : Mem} {nx : Nat} {k : Oc → Mem → Nat → Bool} (h : roundK ih i vs M nx k = true) {ρ : Env} {rs : List Value} {hF : Hp} {w : World} {e : Nat × Nat × Nat} (he : ρ[i]? = some e) (hr : Rep ρ M hF w) (hn : ρ.length = nx) (hg : ∀ g i, T.gl g = some i → ρ[i]? = some (g, 0, 0)) (hv : RL ρ vs rs) :
    ∃ nx, (Instr.yield e.1 rs.toArray).run P w = .ok nx w ∧ NxP P (CallPost T hF ρ w k) nx w := by
  obtain ⟨ck, h1, h⟩ := opt_rec h
  cases ck <;> try (cases h; done)
  rename_i st pd fn fr0 N0 ps as bd D
  cases st <;> try (cases h; done)
  obtain ⟨e0, he0, ⟨T0, e', fn', q1, q2, q3, q4⟩, _⟩ := hr.own _ _ h1
  rw [he] at he0; cases he0
  obtain ⟨fr1, g1, g2, g3, g4⟩ := setPsK_spec (ρ := ρ) h hv q1 q2
  have hy := run_yield (P := P) (args := rs.toArray) q4 (by simp [g2])
  have hz : (ps.toArray.zip rs.toArray).foldl (fun (t : Array Value) (x : Tmp × Value) => t.setIfInBounds x.1 x.2) T0 = putAll ps rs T0 := by simp [putAll]
  refine ⟨_, hy, ?_⟩
  show RoundIn (FW none) 0 P e.1 fn' ((ps.toArray.zip rs.toArray).foldl (fun (t : Array Value) (x : Tmp × Value) => t.setIfInBounds x.1 x.2) T0) as bd w _
  rw [hz]
  refine roundIn_of_wpIn trivial ?_
  refine wpIn_mono (hih _ _ _ _ _ _ _ _ g1 ⟨N0, hF, w, some e.1⟩ ρ { tmps := putAll ps rs T0, defers := [] } w rfl (fun q => by cases q) ⟨g3, g4, rfl, hr, hn, .refl w, hg⟩) ?_
  rintro ex a1 w1 ⟨ρ1, x, fr2, ds2, M2, x1, p2, p3, p4⟩
  cases x <;> try (cases p3; done)
  obtain rfl := p2
  cases ds2 with
  | cons _ _ => cases p3
  | nil =>
  obtain ⟨ck2, h2, p3⟩ := opt_rec p3
  cases ck2 <;> try (cases p3; done)
  rename_i st2 pd2 fn2 fr02 N02 ps2 as2 bd2 D2
  cases st2 <;> try (cases p3; done)
  obtain ⟨e1, r1, M3, k1, k2, k3, k4, k5, k6⟩ := loop_turn p3 p4 h2
  have := x1.get he
  rw [this] at k1; cases k1
  have er : ({ r1 with state := .busy, pending := pd2 } : Loop) = { r1 with state := .busy } := by rw [← k4]
  rw [er] at k6
  refine ⟨_, run_beginRound k2 k3, ?_⟩
  have p4d := p4.dfs
  refine wpIn_mono (hih _ _ _ _ _ _ _ _ k5 ⟨N0, hF, w, some e.1⟩ ρ1 a1 _ rfl (fun q => by cases q) ⟨p4.size, p4.slots, p4d, k6, rfl, p4.same.trans (.putObj _ _ _), p4.glob⟩) ?_
  rintro ey a3 w3 ⟨ρ3, y, fr4, ds4, M4, y1, y2, y3, y4⟩
  have he3 := y1.get this
  cases y with
  | pan v => cases y3
  | normal =>
    obtain rfl := y2
    obtain ⟨e3, r3, M5, z1, z2, z3, z4⟩ := endK_spec y3 y4
    rw [he3] at z1; cases z1
    exact ⟨_, _, run_endRound none z2, ρ3, .ret (.bool true), M5, x1.trans y1, ⟨_, rfl, rfl⟩, z3, z4, y4.same.trans (.putObj _ _ _)⟩
  | ret =>
    obtain rfl := y2
    obtain ⟨e3, r3, M5, z1, z2, z3, z4⟩ := endK_spec y3 y4
    rw [he3] at z1; cases z1
    exact ⟨_, _, run_endRound (some .ret) z2, ρ3, .ret (.bool false), M5, x1.trans y1, ⟨_, rfl, rfl⟩, z3, z4, y4.same.trans (.putObj _ _ _)⟩
  | exit id =>
    obtain rfl := y2
    obtain ⟨e3, r3, M5, z1, z2, z3, z4⟩ := endK_spec y3 y4
    rw [he3] at z1; cases z1
    exact ⟨_, _, run_endRound (some (.exit id)) z2, ρ3, .ret (.bool false), M5, x1.trans y1, ⟨_, rfl, rfl⟩, z3, z4, y4.same.trans (.putObj _ _ _)⟩
end
end Go.Ev
set_option linter.unusedSimpArgs false
set_option linter.unusedVariables false
namespace Go.Ev
open Go.Sl
noncomputable section
variable {P : Program}

/-! ### one operation -/
def callVK (T : Tabs P) (ih : EvT) (fv : AV) (vs : List AV) (M : Mem) (nx : Nat) (k : Oc → Mem → Nat → Bool) : Bool := match fv with
  | .fn (.func f) xs ys => appL vs ys fun l => appL xs l fun all => callFK T ih f all M nx k
  | .yl i => roundK ih i vs M nx k
  | _ => false
variable {T : Tabs P}
theorem callVK_spec {ih : EvT} (hih : Good T ih) {fv : AV} {vs : List AV} {M : Mem} {nx : Nat} {k : Oc → Mem → Nat → Bool} (h : callVK T ih fv vs M nx k = true) {ρ : Env} {fr : Value} {rs : List Value} {hF : Hp} {w : World} (hf : ren ρ fv = some fr) (hr : Rep ρ M hF w) (hn : ρ.length = nx) (hg : ∀ g i, T.gl g = some i → ρ[i]? = some (g, 0, 0)) (hv : RL ρ vs rs) :
    ∃ d nx w1, (Deferred.ofValue fr rs.toArray).run P w = .ok d w ∧ (invoke d.target d.args).run P w = .ok nx w1 ∧ NxP P (CallPost T hF ρ w k) nx w1 := by
  cases fv with
  | fn f xs ys =>
    cases f with
    | func f =>
      have h : appL vs ys (fun l => appL xs l fun all => callFK T ih f all M nx k) = true := h
      rw [appL_eq, appL_eq] at h
      simp only [ren, Option.bind_eq_some_iff, Option.map_eq_some_iff] at hf
      obtain ⟨us, hus, cs, hcs, rfl⟩ := hf
      obtain ⟨nxt, w1, h1, h2⟩ := callFK_spec hih h hr hn hg (RL.append (ρ := ρ) hus (RL.append hv hcs))
      refine ⟨{ target := .fn (.func f) ⟨cs⟩, args := ⟨us⟩ ++ rs.toArray }, nxt, w1, rfl, ?_, h2⟩
      rw [← h1]
      simp only [invoke]
      congr 2
      apply Array.ext'; simp
    | _ => cases h
  | yl i =>
    simp only [ren, Option.map_eq_some_iff] at hf
    obtain ⟨e, he, rfl⟩ := hf
    obtain ⟨nxt, h1, h2⟩ := roundK_spec hih (show roundK ih i vs M nx k = true from h) he hr hn hg hv
    refine ⟨{ target := .fn (.yield e.1) #[], args := #[] ++ rs.toArray }, nxt, w, rfl, by simpa [invoke] using h1, h2⟩
  | _ => cases h
def deferK (T : Tabs P) (inR : Bool) (fv : AV) (vs : List AV) (k : AD → Bool) : Bool := Bool.rec (match fv with
  | .fn (.func f) xs ys => appL xs vs fun l => k (.call f l ys)
  | _ => false) false inR
def callOpK (P : Program) (T : Tabs P) (ih : EvT) (N : Nat) (fr : Tr AV) (ds : List AD) (M : Mem) (nx : Nat) (d : Option Tmp) (k : Tr AV → List AD → Mem → Nat → Bool) (K : Kt) (c : Call) : Bool := match c with
  | ⟨.value f, xs, _⟩ => argK T fr f fun fv => argsK T fr xs.toList fun vs => callVK T ih fv vs M nx fun oc M' nx' => match oc with
    | .ret v => putK N fr d v fun fr' => k fr' ds M' nx'
    | .pan v => K (.pan v) fr ds M' nx'
  | c => builtCK P T fr M nx (fun v M' nx' => putK N fr d v fun fr' => k fr' ds M' nx') c
def deferOpK (T : Tabs P) (N : Nat) (inR : Bool) (fr : Tr AV) (ds : List AD) (M : Mem) (nx : Nat) (d : Option Tmp) (k : Tr AV → List AD → Mem → Nat → Bool) (c : Call) : Bool := match c with
  | ⟨.value f, xs, _⟩ => argK T fr f fun fv => argsK T fr xs.toList fun vs => deferK T inR fv vs fun ad => putK N fr d (.tup []) fun fr' => k fr' (ad :: ds) M nx
  | _ => false
def panicOpK (T : Tabs P) (fr : Tr AV) (ds : List AD) (M : Mem) (nx : Nat) (K : Kt) (x : Operand) : Bool := argK T fr x fun v => match v with
  | .iface t u => K (.pan (.iface t u)) fr ds M nx
  | _ => false
def operK (P : Program) (T : Tabs P) (ih : EvT) (N : Nat) (inR : Bool) (fr : Tr AV) (ds : List AD) (M : Mem) (nx : Nat) (d : Option Tmp) (op : Op) (k : Tr AV → List AD → Mem → Nat → Bool) (K : Kt) : Bool :=
  opXK P T op (callOpK P T ih N fr ds M nx d k K) (deferOpK T N inR fr ds M nx d k) (panicOpK T fr ds M nx K) fr M nx fun v M' nx' => putK N fr d v fun fr' => k fr' ds M' nx'
/-- Behind an operation. -/
def Next1 (T : Tabs P) (c : Cn) (ρ : Env) (k : Tr AV → List AD → Mem → Nat → Bool) : Act → World → Prop := fun a w => ∃ ρ' fr ds M, Ext ρ ρ' ∧ k fr ds M ρ'.length = true ∧ Rl T c ρ' fr ds M ρ'.length a w
theorem opK_wp {c : Cn} {ρ : Env} {fr : Tr AV} {ds : List AD} {M : Mem} {nx N : Nat} {a : Act} {w : World} {d : Option Tmp} {op : Op} {k : Tr AV → List AD → Mem → Nat → Bool} {K : Kt} (hN : c.N = N) (h : opK P T fr M nx op (fun v M' nx' => putK N fr d v fun fr' => k fr' ds M' nx') = true) (s : Rel T c ρ fr ds M nx a w) (hnd : ∀ cl, op ≠ .defer cl) (ty : TypeId) (pos : String) (af : Array Edge) (g : Option (Nat × Bool)) :
    (Oper.mk d op ty pos af g).wpIn (FW c.ro) 0 P a w (Next1 T c ρ k) (Post T c ρ K) := by
  obtain ⟨v, r, ρ', M', w', n, h1, h2, h3, h4, h5, h6, h7⟩ := opK_spec h s
  refine wpIn_of_run hnd ?_
  rw [h7 ⟨d, op, ty, pos, af, g⟩ rfl]
  obtain ⟨fr', g1, g2⟩ := putK_spec (N := N) h3 (by rw [s.size, hN]) (s.slots.ext h1) h2
  have hR : Rl T c ρ' fr' ds M' ρ'.length (a.put d r) w' := ⟨by rw [put_size]; exact s.size, g2, by rw [put_defers]; exact renD_ext h1 s.dfs, h4, rfl, s.same.trans h5, glob_ext s.glob h1⟩
  rcases h6 with rfl | ⟨rfl, rfl⟩
  · exact ⟨ρ', fr', ds, M', h1, g1, hR⟩
  · exact ⟨ρ', fr', ds, M', h1, g1, hR⟩
theorem operK_spec {ih : EvT} (hih : Good T ih) {c : Cn} {ρ : Env} {fr : Tr AV} {ds : List AD} {M : Mem} {nx N : Nat} {inR : Bool} {a : Act} {w : World} {d : Option Tmp} {op : Op} {k : Tr AV → List AD → Mem → Nat → Bool} {K : Kt} (hN : c.N = N) (hro : inR = false → c.ro = none) (h : operK P T ih N inR fr ds M nx d op k K = true) (s : Rel T c ρ fr ds M nx a w) (ty : TypeId) (pos : String) (af : Array Edge) (g : Option (Nat × Bool)) :
    (Oper.mk d op ty pos af g).wpIn (FW c.ro) 0 P a w (Next1 T c ρ k) (Post T c ρ K) := by
  cases op with
  | call cl =>
    obtain ⟨cal, xs, ts⟩ := cl
    cases cal with
    | value f =>
      obtain ⟨fv, fvr, h1, h2⟩ := argK_spec (show argK T fr f (fun fv => argsK T fr xs.toList fun vs => callVK T ih fv vs M nx fun oc M' nx' => match oc with
        | .ret v => putK N fr d v fun fr' => k fr' ds M' nx'
        | .pan v => K (.pan v) fr ds M' nx') = true from h) s
      obtain ⟨vs, rs, h3, h4⟩ := argsK_spec s h2
      obtain ⟨dd, nxt, w1, q1, q2, q3⟩ := callVK_spec hih h4 h1.ren s.rep s.nx s.glob h3.1
      have hargs : xs.map a.eval = rs.toArray := by
        have := (st_full none a (sat_all w)).evals (h3.2 none w (mem w))
        apply Array.ext'; rw [Array.toList_map, this]
      have hr : (execOp a.eval ⟨d, .call ⟨.value f, xs, ts⟩, ty, pos, af, g⟩).run P w = .ok nxt w1 := by
        simp only [execOp, resolve, h1.eval, hargs, Sem.run_bind, q1, Result.andThen_ok, q2]
      refine wpIn_of_run (fun c hc => by cases hc) ?_
      rw [hr]
      have key : ∀ e w', CallPost T c.hF ρ w (fun oc M' nx' => match oc with
          | .ret v => putK N fr d v fun fr' => k fr' ds M' nx'
          | .pan v => K (.pan v) fr ds M' nx') e w' → (match e, w' with
          | .returned v, w'' => Next1 T c ρ k (a.put d v) w''
          | .panicked chain, w'' => Post T c ρ K (.panic chain) a w''
          | .outgrown, _ => LetsOut (Post T c ρ K)) := by
        rintro e w' ⟨ρ', oc, M', p1, p2, p3, p4, p5⟩
        cases oc with
        | ret v =>
          obtain ⟨r, p6, rfl⟩ := p2
          obtain ⟨fr', g1, g2⟩ := putK_spec (N := N) p3 (by rw [s.size, hN]) (s.slots.ext p1) p6
          exact ⟨ρ', fr', ds, M', p1, g1, ⟨by rw [put_size]; exact s.size, g2, by rw [put_defers]; exact renD_ext p1 s.dfs, p4, rfl, s.same.trans p5, glob_ext s.glob p1⟩⟩
        | pan v =>
          obtain ⟨r, p6, rfl⟩ := p2
          exact ⟨ρ', .pan v, fr, ds, M', p1, ⟨r, p6, rfl⟩, p3, ⟨s.size, s.slots.ext p1, renD_ext p1 s.dfs, p4, rfl, s.same.trans p5, glob_ext s.glob p1⟩⟩
      cases nxt with
      | enter f as => exact ⟨(fun hd => by cases hd), CallsIn.mono ((callsIn_wide (n := 0 - 1)).2 q3) (fun e w' hr => by have := key e w' hr; cases e <;> exact this)⟩
      | round l f tmps assign body => exact ⟨(fun hd => by cases hd), RoundIn.mono q3 (fun e w' hr => by have := key e w' hr; cases e <;> exact this)⟩
      | value v => exact key (.returned v) w1 q3
      | _ => exact q3.elim
    | builtin b => refine opK_wp (k := k) hN ?_ s (by simp) ty pos af g; exact h
    | invoke r m => refine opK_wp (k := k) hN ?_ s (by simp) ty pos af g; exact h
  | defer cl =>
    obtain ⟨cal, xs, ts⟩ := cl
    cases cal <;> try (cases h; done)
    rename_i f
    obtain ⟨fv, fvr, h1, h2⟩ := argK_spec (show argK T fr f (fun fv => argsK T fr xs.toList fun vs => deferK T inR fv vs fun ad => putK N fr d (.tup []) fun fr' => k fr' (ad :: ds) M nx) = true from h) s
    obtain ⟨vs, rs, h3, h4⟩ := argsK_spec s h2
    cases inR with
    | true => cases h4
    | false =>
      have hro := hro rfl
      cases fv <;> try (cases h4; done)
      rename_i fn us cs
      cases fn <;> try (cases h4; done)
      rename_i f'
      have h4 : appL us vs (fun l => putK N fr d (.tup []) fun fr' => k fr' (.call f' l cs :: ds) M nx) = true := h4
      rw [appL_eq] at h4
      have hargs : xs.map a.eval = rs.toArray := by
        have := (st_full none a (sat_all w)).evals (h3.2 none w (mem w))
        apply Array.ext'; rw [Array.toList_map, this]
      have e1 := h1.ren
      simp only [ren, Option.bind_eq_some_iff, Option.map_eq_some_iff] at e1
      obtain ⟨ur, hur, cr, hcr, rfl⟩ := e1
      obtain ⟨fr', g1, g2⟩ := putK_spec (N := N) h4 (by rw [s.size, hN]) s.slots (r := undef) rfl
      rw [hro]
      refine ⟨(fun _ _ => trivial), ?_⟩
      have hr : ((Oper.mk d (.defer ⟨.value f, xs, ts⟩) ty pos af g).semAt (FW none).round a.eval).run P w = .ok (.defer ⟨.fn (.func f') ⟨cr⟩, ⟨ur⟩ ++ rs.toArray⟩) w := by
        rw [show (FW none).round = none from rfl, Oper.semAt_none]
        simp [execOp, resolve, h1.eval, hargs, Deferred.ofValue]
      rw [hr]
      refine ⟨ρ, fr', .call f' (us ++ vs) cs :: ds, M, .refl ρ, by rw [s.nx]; exact g1, ?_, ?_, ?_, s.rep, rfl, s.same, s.glob⟩
      · rw [put_size]; exact s.size
      · have : ({ a with defers := ⟨.fn (.func f') ⟨cr⟩, ⟨ur⟩ ++ rs.toArray⟩ :: a.defers } : Act).tmps = a.tmps := rfl
        cases d <;> exact g2
      · rw [put_defers]
        have hall : renL ρ (us ++ vs) = some (ur ++ rs) := RL.append (ρ := ρ) hur h3.1
        simp only [renD, hall, hcr, s.dfs, Option.bind_some, Option.map_some]
        congr 3
        apply Array.ext'; simp
  | panic x =>
    obtain ⟨v, r, h1, h2⟩ := argK_spec (show argK T fr x (fun v => match v with
      | .iface t u => K (.pan (.iface t u)) fr ds M nx
      | _ => false) = true from h) s
    cases v <;> try (cases h2; done)
    rename_i t u
    have e1 := h1.ren
    simp only [ren, Option.map_eq_some_iff] at e1
    obtain ⟨ur, hur, rfl⟩ := e1
    refine wpIn_of_run (fun c hc => by cases hc) ?_
    have hr : (execOp a.eval ⟨d, .panic x, ty, pos, af, g⟩).run P w = .halt (.panic (.iface t ur)) w := by
      simp [execOp, h1.eval, Instr.panic, goPanic, Sem.run]
    rw [hr]
    exact ⟨ρ, .pan (.iface t u), fr, ds, M, .refl ρ, ⟨_, h1.ren, rfl⟩, by rw [s.nx]; exact h2, ⟨s.size, s.slots, s.dfs, s.rep, rfl, s.same, s.glob⟩⟩
  | _ => refine opK_wp (k := k) hN ?_ s (by simp) ty pos af g; exact h

/-! ### a statement's operations in their order -/
def listK (P : Program) (T : Tabs P) (ih : EvT) (N : Nat) (inR : Bool) (ops : List Oper) (K : Kt) (l : List Oper) : Tr AV → List AD → Mem → Nat → Bool := List.rec (fun fr ds M nx => K .normal fr ds M nx)
  (fun o _ rec fr ds M nx => Oper.rec (fun d op _ _ _ g => wantK ops fr g (operK P T ih N inR fr ds M nx d op rec K) (putK N fr d (.tup []) fun fr' => rec fr' ds M nx)) o) l
theorem listK_spec {ih : EvT} (hih : Good T ih) {N : Nat} {inR : Bool} {ops : List Oper} {K : Kt} {c : Cn} (hN : c.N = N) (hro : inR = false → c.ro = none) : ∀ {l : List Oper} {ρ : Env} {fr : Tr AV} {ds : List AD} {M : Mem} {nx : Nat} {a : Act} {w : World}, listK P T ih N inR ops K l fr ds M nx = true → Rl T c ρ fr ds M nx a w → wpListIn (FW c.ro) 0 P ops.toArray (Post T c ρ K) l a w
  | [], ρ, fr, ds, M, nx, a, w, h, s => wpListIn_nil ⟨ρ, .normal, fr, ds, M, .refl ρ, rfl, by rw [s.nx]; exact h, ⟨s.size, s.slots, s.dfs, s.rep, rfl, s.same, s.glob⟩⟩
  | ⟨d, op, ty, pos, af, g⟩ :: l, ρ, fr, ds, M, nx, a, w, h, s => wpListIn_step fun Kr hKr => by
    obtain ⟨b, h1, h2⟩ := wantK_spec (show wantK ops fr g (operK P T ih N inR fr ds M nx d op (listK P T ih N inR ops K l) K) (putK N fr d (.tup []) fun fr' => listK P T ih N inR ops K l fr' ds M nx) = true from h) s.slots
    rw [h2]
    have mono : ∀ {ρ' : Env} {a : Act} {w : World}, Ext ρ ρ' → wpListIn (FW c.ro) 0 P ops.toArray (Post T c ρ' K) l a w → wpListIn (FW c.ro) 0 P ops.toArray (Post T c ρ K) l a w := fun x h => wpListIn_mono (fun e a w q => q.mono x) l _ _ h
    cases b with
    | true =>
      refine Oper.wpIn_mono (fun a' w' hn => ?_) (operK_spec hih hN hro h1 s ty pos af g)
      obtain ⟨ρ', fr', ds', M', p1, p2, p3⟩ := hn
      exact hKr _ _ (mono p1 (listK_spec hih hN hro p2 p3))
    | false =>
      obtain ⟨fr', g1, g2⟩ := putK_spec (N := N) (show putK N fr d (.tup []) (fun fr' => listK P T ih N inR ops K l fr' ds M nx) = true from h1) (by rw [s.size, hN]) s.slots (r := undef) rfl
      exact ⟨(fun _ _ => trivial), hKr _ _ (listK_spec hih hN hro g1 ⟨by rw [put_size]; exact s.size, g2, by rw [put_defers]; exact s.dfs, s.rep, s.nx, s.same, s.glob⟩)⟩

/-! ### new blocks with numbers that were kept for them -/
def resAK (P : Program) (T : Tabs P) (fr : Tr AV) (M : Mem) (r : Nat) (op : Op) (k : AV → Mem → Bool) (other : Bool) : Bool := match op with
  | .makeMap _ none => forceN r fun r => M.set r (.map [] 0) fun M' => k (.map r) M'
  | .alloc t => forceN r fun r => zeroK P t fun z => both (allL one (cellsA z)) (M.set r (.row t 0 (cellsA z) 0) fun M' => k (.ptr r 0) M')
  | .box t x => forceN r fun r => argK T fr x fun z => both (allL one (cellsA z)) (M.set r (.row t 0 (cellsA z) 0) fun M' => k (.ptr r 0) M')
  | .buildSlice t len parts => forceN r fun r => sliceCellsK P T fr t len parts fun e sz cells => M.set r (.row e sz cells 0) fun M' => k (.sl r 0 len len false) M'
  | _ => other
theorem resAK_spec {fr : Tr AV} {M : Mem} {r : Nat} {op : Op} {k : AV → Mem → Bool} {other : Bool} (h : resAK P T fr M r op k other = true) {c : Cn} {ρ : Env} {ds : List AD} {nx : Nat} {a : Act} {w : World} (s : Rl T c ρ fr ds M nx a w) (hlt : r < ρ.length) (hno : ρ[r]? = none) :
    other = true ∨ ∃ v rv e M' w', ren (ρ.fill r e) v = some rv ∧ k v M' = true ∧ Rep (ρ.fill r e) M' c.hF w' ∧ Same w w' ∧ ∀ o : Oper, o.op = op → (execOp a.eval o).run P w = .ok (.value rv) w' := by
  have key : ∀ {ck : Ck} {o : Obj} {v : AV} {k' : Mem → Bool}, M.set r ck k' = true → ck.own = true → Sh (ρ.fill r (w.heap.size, 0, 0)) c.hF (w.heap.size, 0, 0) (some o) ck → ∃ M', k' M' = true ∧ Rep (ρ.fill r (w.heap.size, 0, 0)) M' c.hF (w.alloc o) := fun hs ho hsh => by
    obtain ⟨M', h1, h2⟩ := Tr.set_spec hs
    refine ⟨M', h2, s.rep.addAt (Le.fill ρ hlt hno _) (by rw [Env.get_fill ρ hlt, if_pos rfl]) h1 ho (by simp) (le_alloc w _) ?_⟩
    rw [World.alloc_heap_new]; exact hsh
  have rowS : ∀ {t : TypeId} {z : AV} {z' : Value}, ren ρ z = some z' → allL one (cellsA z) = true → Sh (ρ.fill r (w.heap.size, 0, 0)) c.hF (w.heap.size, 0, 0) (some (.cells z'.cells t)) (.row t 0 (cellsA z) 0) := fun {t z z'} hz h1 => by
    have hl := renL_le (Le.fill ρ hlt hno (w.heap.size, 0, 0)) (cellsA_spec hz)
    exact ⟨[], z'.cells.toList, [], (0, 0), hl, by simp, rfl, by simp, .inr (.inl (Nat.le_refl _)), h1⟩
  have gp : ren (ρ.fill r (w.heap.size, 0, 0)) (.ptr r 0) = some (.pointer (some ⟨w.heap.size, 0, none⟩)) := by
    simp [ren, Env.get_fill ρ hlt]
  unfold resAK at h
  split at h
  · rw [forceN_eq] at h
    obtain ⟨M', h1, h2⟩ := key (o := .map #[] 0) (v := .map r) h rfl ⟨[], rfl, rfl⟩
    refine .inr ⟨.map r, .map (some w.heap.size), (w.heap.size, 0, 0), M', _, by simp [ren, Env.get_fill ρ hlt], h1, h2, .alloc w _, ?_⟩
    rintro ⟨d, op', ty, pos, af, g⟩ rfl
    rfl
  · rename_i t
    rw [forceN_eq] at h
    obtain ⟨z, h1, h2⟩ := opt_rec h
    obtain ⟨z', z1, z2, _⟩ := zeroA_spec h1 ρ
    obtain ⟨h3, h2⟩ := both_eq.1 h2
    obtain ⟨M', g1, g2⟩ := key (v := .ptr r 0) h2 rfl (rowS z2 h3)
    refine .inr ⟨.ptr r 0, _, (w.heap.size, 0, 0), M', _, gp, g1, g2, .alloc w _, ?_⟩
    rintro ⟨d, op', ty, pos, af, g⟩ rfl
    simp [execOp, Instr.alloc, run_zeroV z1, run_newVar]
  · rename_i t x
    rw [forceN_eq] at h
    obtain ⟨z, z', h1, h2⟩ := argK_spec h s
    obtain ⟨h3, h2⟩ := both_eq.1 h2
    obtain ⟨M', g1, g2⟩ := key (v := .ptr r 0) h2 rfl (rowS h1.ren h3)
    refine .inr ⟨.ptr r 0, _, (w.heap.size, 0, 0), M', _, gp, g1, g2, .alloc w _, ?_⟩
    rintro ⟨d, op', ty, pos, af, g⟩ rfl
    simp [execOp, Instr.box, h1.eval, run_newVar]
  · rename_i t len parts
    rw [forceN_eq] at h
    obtain ⟨e, sz, cells, cv, g2, g4, g5, hr⟩ := sliceCellsK_spec h s
    obtain ⟨M', q1, q2⟩ := key (o := .cells ⟨cv⟩ e) (v := .sl r 0 len len false) g5 rfl ⟨[], cv, [], (0, 0), renL_le (Le.fill ρ hlt hno (w.heap.size, 0, 0)) g2, by simp, rfl, by simp, .inr (.inl (Nat.le_refl _)), g4⟩
    exact .inr ⟨.sl r 0 len len false, _, (w.heap.size, 0, 0), M', _, by simp [ren, Env.get_fill ρ hlt], q1, q2, .alloc w _, hr⟩
  · exact .inl h

/-! ### a statement whose order is open, by a plan -/
def finK (br : Bool) (x : Bool) : Bool := Bool.rec x (both x true) br
theorem finK_spec {br x : Bool} (h : finK br x = true) : x = true := by
  cases br with
  | false => exact h
  | true => exact (both_eq.1 h).1
def drawK (P : Program) (T : Tabs P) (ih : EvT) (N : Nat) (inR : Bool) (ops : List Oper) (K : Kt) (br : Bool) (base : Nat) (p : Pl) : List Hl → Tr AV → List AD → Mem → Nat → Bool :=
  Pl.rec (fun _ fr ds M nx => finK br (K .normal fr ds M nx))
    (fun i _ rec hl fr ds M nx => Option.rec false (fun o => Oper.rec (fun d op _ _ _ g => wantK ops fr g (opA P T fr op fun v => putK N fr d v fun fr' => rec hl fr' ds M nx) (putK N fr d (.tup []) fun fr' => rec hl fr' ds M nx)) o) (nth ops i))
    (fun i _ rec hl fr ds M nx => Option.rec false (fun o => Oper.rec (fun d op _ _ _ g => wantK ops fr g (opB P T fr M op fun v => putK N fr d v fun fr' => rec (.mk i fr ds op v :: hl) fr' ds M nx) (putK N fr d (.tup []) fun fr' => rec hl fr' ds M nx)) o) (nth ops i))
    (fun i chk _ _ recp recq hl fr ds M nx => both (recq hl fr ds M nx) (Option.rec false (fun o => Oper.rec (fun d op _ _ _ g => wantK ops fr g (Bool.rec (operK P T ih N inR fr ds M nx d op (fun fr' ds' M' nx' => againK P T chk hl M' (recp hl fr' ds' M' nx')) K) (resAK P T fr M (Nat.add base i) op (fun v M' => putK N fr d v fun fr' => againK P T chk hl M' (recp hl fr' ds M' nx)) (operK P T ih N inR fr ds M nx d op (fun fr' ds' M' nx' => againK P T chk hl M' (recp hl fr' ds' M' nx')) K)) br) (putK N fr d (.tup []) fun fr' => recp hl fr' ds M nx)) o) (nth ops i)))
    (fun _ _ _ _ _ => true) p
def noPan (K : Kt) : Kt := fun x => match x with
  | .pan _ => fun _ _ _ _ => false
  | x => K x
theorem noPan_post {c : Cn} {ρ : Env} {K : Kt} {e : Exit} {a : Act} {w : World} (h : Post T c ρ (noPan K) e a w) : Post T c ρ K e a w := by
  obtain ⟨ρ', x, fr, ds, M, h1, h2, h3, h4⟩ := h
  refine ⟨ρ', x, fr, ds, M, h1, h2, ?_, h4⟩
  cases x <;> first | exact h3 | cases h3
theorem noPan_panic' {c : Cn} {ρ : Env} {K : Kt} {e : Exit} {a : Act} {w : World} (h : Post T c ρ (noPan K) e a w) : ∀ l, e ≠ .panic l := by
  obtain ⟨ρ', x, fr, ds, M, h1, h2, h3, h4⟩ := h
  rintro l rfl
  cases x with
  | pan v => cases h3
  | _ => cases h2
/-- Numbers base, base + 1, .. are kept for the operations that are not done. -/
def Hol (br : Bool) (base : Nat) (ρ0 ρ : Env) (ops : List Oper) (done : Array Bool) : Prop := br = true → base = ρ0.length ∧ base + ops.length ≤ ρ.length ∧ ∀ i, i < ops.length → done.getD i true = false → ρ[base + i]? = none
theorem Hol.set {br : Bool} {base : Nat} {ρ0 ρ : Env} {ops : List Oper} {done : Array Bool} {i : Nat} (h : Hol br base ρ0 ρ ops done) : Hol br base ρ0 ρ ops (done.setIfInBounds i true) := fun hb => by
  obtain ⟨h1, h2, h3⟩ := h hb
  refine ⟨h1, h2, fun j hj hd => h3 j hj ?_⟩
  by_cases e : i = j
  · subst e
    by_cases q : i < done.size
    · simp [Array.getD_eq_getD_getElem?, q] at hd
    · simp [Array.getD_eq_getD_getElem?, q] at hd
  · rwa [getD_set_ne true e] at hd
theorem Hol.ext {br : Bool} {base : Nat} {ρ0 ρ ρ' : Env} {ops : List Oper} {done : Array Bool} (h : Hol br base ρ0 ρ ops done) (x : Ext ρ ρ') : Hol br base ρ0 ρ' ops done := fun hb => by
  obtain ⟨h1, h2, h3⟩ := h hb
  exact ⟨h1, Nat.le_trans h2 x.len, fun i hi hd => by rw [x.same (by omega)]; exact h3 i hi hd⟩
theorem Hol.fill {br : Bool} {base : Nat} {ρ0 ρ : Env} {ops : List Oper} {done : Array Bool} {i : Nat} (h : Hol br base ρ0 ρ ops done) (hb : br = true) (hi : i < ops.length) (e : Nat × Nat × Nat) : Hol br base ρ0 (ρ.fill (base + i) e) ops (done.setIfInBounds i true) := fun _ => by
  obtain ⟨h1, h2, h3⟩ := h hb
  refine ⟨h1, by rw [Env.length_fill]; exact h2, fun j hj hd => ?_⟩
  by_cases q : i = j
  · subst q
    by_cases q : i < done.size
    · simp [Array.getD_eq_getD_getElem?, q] at hd
    · simp [Array.getD_eq_getD_getElem?, q] at hd
  · rw [Env.get_fill ρ (by omega), if_neg (by omega)]
    rw [getD_set_ne true q] at hd
    exact h3 j hj hd
theorem drawK_spec {ih : EvT} (hih : Good T ih) {N : Nat} {inR : Bool} {ops : List Oper} {K : Kt} {c : Cn} (hN : c.N = N) (hro : inR = false → c.ro = none) (hsel : Region.noSelect ops.toArray = true) (hnd : noDefer ops.toArray = true) {br : Bool} {base : Nat} {ρ0 : Env} :
    ∀ {p : Pl} {hl : List Hl} {HL : List HEnt} {held seen : List Nat} {n : Nat} {done : Array Bool} {ρ : Env} {fr : Tr AV} {ds : List AD} {M : Mem} {nx : Nat} {a : Act} {w : World}, drawK P T ih N inR ops (noPan K) br base p hl fr ds M nx = true → okPl ops p n done held seen = true → All2 (HlOk c ρ) hl HL → (∀ h ∈ HL, h.i ∈ held) → Closed ops.toArray done → Rl T c ρ fr ds M nx a w → Ext ρ0 ρ → Hol br base ρ0 ρ ops done →
      Owed c.ro P ops (Post T c ρ0 (noPan K)) (Sof P ops HL) seen n done a w
  | .fin, hl, HL, held, seen, n, done, ρ, fr, ds, M, nx, a, w, h, ok, hp, hh, hc, s, x0, hl0 => by
    have hr := isNilL_spec (show isNilL (readyL ops done) = true from ok)
    have hq : Post T c ρ0 (noPan K) .normal a w := ⟨ρ, .normal, fr, ds, M, x0, rfl, by rw [s.nx]; exact finK_spec h, ⟨s.size, s.slots, s.dfs, s.rep, rfl, s.same, s.glob⟩⟩
    cases n with
    | zero => exact ⟨hr, hq⟩
    | succ n => exact ⟨fun _ => hq, by rw [show Region.ready .any ops.toArray done = [] from hr]; simp⟩
  | .take i p, hl, HL, held, seen, n, done, ρ, fr, ds, M, nx, a, w, h, ok, hp, hh, hc, s, x0, hl0 => by
    cases n with
    | zero => cases ok
    | succ n =>
    obtain ⟨ok1, ok⟩ := both_eq.1 (show both (hasN (readyL ops done) i) (both (Region.free .any ops.toArray done i) (okPl ops p n (done.setIfInBounds i true) held [])) = true from ok)
    obtain ⟨ok2, ok⟩ := both_eq.1 ok
    have hi : i ∈ Region.ready .any ops.toArray done := hasN_spec ok1
    obtain ⟨⟨d, op, ty, pos, af, g⟩, h1, h⟩ := opt_rec h
    rw [nth_eq] at h1
    have h1' : ops.toArray[i]? = some ⟨d, op, ty, pos, af, g⟩ := by simpa using h1
    obtain ⟨b, h2, h3⟩ := wantK_spec (show wantK ops fr g (opA P T fr op fun v => putK N fr d v fun fr' => drawK P T ih N inR ops (noPan K) br base p hl fr' ds M nx) (putK N fr d (.tup []) fun fr' => drawK P T ih N inR ops (noPan K) br base p hl fr' ds M nx) = true from h) s.slots
    have goal : ∀ v r, ren ρ v = some r → putK N fr d v (fun fr' => drawK P T ih N inR ops (noPan K) br base p hl fr' ds M nx) = true → YieldsIf P ops.toArray (fun _ => True) ⟨d, op, ty, pos, af, g⟩ r a → Owed c.ro P ops (Post T c ρ0 (noPan K)) (Sof P ops HL) seen (n + 1) done a w := fun v r hv hk hy => by
      obtain ⟨fr', g1, g2⟩ := putK_spec (N := N) hk (by rw [s.size, hN]) s.slots hv
      have s' : Rl T c ρ fr' ds M nx (a.put d r) w := ⟨by rw [put_size]; exact s.size, g2, by rw [put_defers]; exact s.dfs, s.rep, s.nx, s.same, s.glob⟩
      exact (Hs.take (R := fun _ => True) h1' hsel hnd (fun _ _ _ q => noPan_panic' q _ rfl |>.elim) (fun w h _ _ q => q) (fun _ _ _ _ _ _ => trivial) n done a w hc (Region.free_spec h1' ok2) hi hy trivial (drawK_spec hih hN hro hsel hnd g1 ok hp hh (hc.set hi) s' x0 hl0.set).hs).owed
    cases b with
    | true =>
      obtain ⟨v, r, g1, g2, g3⟩ := opA_spec (show opA P T fr op (fun v => putK N fr d v fun fr' => drawK P T ih N inR ops (noPan K) br base p hl fr' ds M nx) = true from h2) s
      exact goal v r g1 g2 (.inl ⟨h3 d op ty pos af, fun w' _ => yrun (g3 w' trivial ty) d pos af g⟩)
    | false => exact goal (.tup []) undef rfl h2 (.inr ⟨h3 d op ty pos af, rfl⟩)
  | .hold i p, hl, HL, held, seen, n, done, ρ, fr, ds, M, nx, a, w, h, ok, hp, hh, hc, s, x0, hl0 => by
    cases n with
    | zero => cases ok
    | succ n =>
    obtain ⟨ok1, ok⟩ := both_eq.1 (show both (hasN (readyL ops done) i) (both (Region.free .any ops.toArray done i) (okPl ops p n (done.setIfInBounds i true) (i :: held) [])) = true from ok)
    obtain ⟨ok2, ok⟩ := both_eq.1 ok
    have hi : i ∈ Region.ready .any ops.toArray done := hasN_spec ok1
    obtain ⟨⟨d, op, ty, pos, af, g⟩, h1, h⟩ := opt_rec h
    rw [nth_eq] at h1
    have h1' : ops.toArray[i]? = some ⟨d, op, ty, pos, af, g⟩ := by simpa using h1
    obtain ⟨b, h2, h3⟩ := wantK_spec (show wantK ops fr g (opB P T fr M op fun v => putK N fr d v fun fr' => drawK P T ih N inR ops (noPan K) br base p (.mk i fr ds op v :: hl) fr' ds M nx) (putK N fr d (.tup []) fun fr' => drawK P T ih N inR ops (noPan K) br base p hl fr' ds M nx) = true from h) s.slots
    cases b with
    | true =>
      obtain ⟨v, r, g1, hk, g3⟩ := opB_spec (show opB P T fr M op (fun v => putK N fr d v fun fr' => drawK P T ih N inR ops (noPan K) br base p (.mk i fr ds op v :: hl) fr' ds M nx) = true from h2) s
      obtain ⟨fr', q1, q2⟩ := putK_spec (N := N) hk (by rw [s.size, hN]) s.slots g1
      have s' : Rl T c ρ fr' ds M nx (a.put d r) w := ⟨by rw [put_size]; exact s.size, q2, by rw [put_defers]; exact s.dfs, s.rep, s.nx, s.same, s.glob⟩
      let e : HEnt := ⟨i, a, ⟨d, op, ty, pos, af, g⟩, r⟩
      have hw : e.R P w := yrun (g3 w rfl ty) d pos af g
      have hrec := (drawK_spec hih hN hro hsel hnd (HL := e :: HL) (held := i :: held) (seen := []) q1 ok ⟨⟨rfl, rfl, s.size, s.slots, s.dfs, g1⟩, hp⟩ (fun h hm => by
        rcases List.mem_cons.1 hm with rfl | hm
        · simp [e]
        · exact List.mem_cons_of_mem _ (hh h hm)) (hc.set hi) s' x0 hl0.set).hs
      refine (Hs.mono (S := Sof P ops (e :: HL)) (fun j w w' q x hx => q x (List.mem_cons_of_mem _ hx)) _ _ _ _ (Hs.take (R := e.R P) h1' hsel hnd (fun _ _ _ q => noPan_panic' q _ rfl |>.elim) (fun w h _ _ q => q) (fun j w w' ha hS hR => hS e (by simp) ha hR) n done a w hc (Region.free_spec h1' ok2) hi (.inl ⟨h3 d op ty pos af, fun w' q => q⟩) hw hrec)).owed
    | false =>
      obtain ⟨fr', q1, q2⟩ := putK_spec (N := N) (show putK N fr d (.tup []) (fun fr' => drawK P T ih N inR ops (noPan K) br base p hl fr' ds M nx) = true from h2) (by rw [s.size, hN]) s.slots (r := undef) rfl
      have s' : Rl T c ρ fr' ds M nx (a.put d undef) w := ⟨by rw [put_size]; exact s.size, q2, by rw [put_defers]; exact s.dfs, s.rep, s.nx, s.same, s.glob⟩
      exact (Hs.take (R := fun _ => True) h1' hsel hnd (fun _ _ _ q => noPan_panic' q _ rfl |>.elim) (fun w h _ _ q => q) (fun _ _ _ _ _ _ => trivial) n done a w hc (Region.free_spec h1' ok2) hi (.inr ⟨h3 d op ty pos af, rfl⟩) trivial (drawK_spec hih hN hro hsel hnd q1 ok hp (fun h hm => List.mem_cons_of_mem _ (hh h hm)) (hc.set hi) s' x0 hl0.set).hs).owed
  | .alt i chk p q, hl, HL, held, seen, n, done, ρ, fr, ds, M, nx, a, w, h, ok, hp, hh, hc, s, x0, hl0 => by
    cases n with
    | zero => cases ok
    | succ n =>
    obtain ⟨ok1, ok⟩ := both_eq.1 (show both (hasN (readyL ops done) i) (both (allL (fun h => Bool.rec (anc ops.toArray ops.toArray.size i h) true (hasN chk h)) held) (both (okPl ops p n (done.setIfInBounds i true) held []) (okPl ops q (n + 1) done held (i :: seen)))) = true from ok)
    obtain ⟨ok2, ok⟩ := both_eq.1 ok
    obtain ⟨ok3, ok4⟩ := both_eq.1 ok
    have hi : i ∈ Region.ready .any ops.toArray done := hasN_spec ok1
    obtain ⟨hq, h⟩ := both_eq.1 (show both (drawK P T ih N inR ops (noPan K) br base q hl fr ds M nx) (Option.rec false (fun o => Oper.rec (fun d op _ _ _ g => wantK ops fr g (Bool.rec (operK P T ih N inR fr ds M nx d op (fun fr' ds' M' nx' => againK P T chk hl M' (drawK P T ih N inR ops (noPan K) br base p hl fr' ds' M' nx')) (noPan K)) (resAK P T fr M (Nat.add base i) op (fun v M' => putK N fr d v fun fr' => againK P T chk hl M' (drawK P T ih N inR ops (noPan K) br base p hl fr' ds M' nx)) (operK P T ih N inR fr ds M nx d op (fun fr' ds' M' nx' => againK P T chk hl M' (drawK P T ih N inR ops (noPan K) br base p hl fr' ds' M' nx')) (noPan K))) br) (putK N fr d (.tup []) fun fr' => drawK P T ih N inR ops (noPan K) br base p hl fr' ds M nx)) o) (nth ops i)) = true from h)
    have hrest := drawK_spec hih hN hro hsel hnd hq ok4 hp hh hc s x0 hl0
    refine ⟨hrest.1, fun j hj hs => ?_⟩
    by_cases e : Nat.beq i j = true
    · have e := Nat.eq_of_beq_eq_true e
      subst e
      obtain ⟨⟨d, op, ty, pos, af, g⟩, h1, h⟩ := opt_rec h
      rw [nth_eq] at h1
      have h1' : ops.toArray[i]? = some ⟨d, op, ty, pos, af, g⟩ := by simpa using h1
      obtain ⟨b, h2, h3⟩ := wantK_spec (show wantK ops fr g (Bool.rec (operK P T ih N inR fr ds M nx d op (fun fr' ds' M' nx' => againK P T chk hl M' (drawK P T ih N inR ops (noPan K) br base p hl fr' ds' M' nx')) (noPan K)) (resAK P T fr M (Nat.add base i) op (fun v M' => putK N fr d v fun fr' => againK P T chk hl M' (drawK P T ih N inR ops (noPan K) br base p hl fr' ds M' nx)) (operK P T ih N inR fr ds M nx d op (fun fr' ds' M' nx' => againK P T chk hl M' (drawK P T ih N inR ops (noPan K) br base p hl fr' ds' M' nx')) (noPan K))) br) (putK N fr d (.tup []) fun fr' => drawK P T ih N inR ops (noPan K) br base p hl fr' ds M nx) = true from h) s.slots
      unfold Go.wpOpIn
      simp only [h1']
      rw [h3]
      cases b with
      | true =>
        simp only [if_true]
        have hchk : ∀ x ∈ HL, anc ops.toArray ops.toArray.size i x.i = false → hasN chk x.i = true := fun x hx ha => by
          have := allL_spec ok2 x.i (hh x hx)
          cases hx' : hasN chk x.i with
          | true => rfl
          | false => rw [hx'] at this; rw [ha] at this; cases this
        have slow : operK P T ih N inR fr ds M nx d op (fun fr' ds' M' nx' => againK P T chk hl M' (drawK P T ih N inR ops (noPan K) br base p hl fr' ds' M' nx')) (noPan K) = true → (Oper.mk d op ty pos af g).wpIn (FW c.ro) 0 P a w (fun a' w' => Sof P ops HL i w w' ∧ Hs c.ro P ops.toArray (Post T c ρ0 (noPan K)) (Sof P ops HL) n (done.setIfInBounds i true) a' w') (Post T c ρ0 (noPan K)) := fun h2 => by
          refine Oper.wpIn_monoQ (fun e a w q => Post.mono x0 q) (Oper.wpIn_mono (fun a' w' hn => ?_) (operK_spec (k := fun fr' ds' M' nx' => againK P T chk hl M' (drawK P T ih N inR ops (noPan K) br base p hl fr' ds' M' nx')) hih hN hro h2 s ty pos af g))
          obtain ⟨ρ', fr', ds', M', p1, p2, p3⟩ := hn
          obtain ⟨p4, p5⟩ := againK_spec (c := c) p3.rep p3.same p3.glob p2 (all2_ext p1 hp)
          exact ⟨fun x hx ha _ => p5 x hx (hchk x hx ha), (drawK_spec hih hN hro hsel hnd p4 ok3 (all2_ext p1 hp) hh (hc.set hi) p3 (x0.trans p1) (hl0.ext p1).set).hs⟩
        cases hbr : br with
        | false => rw [hbr] at h2 slow; exact slow h2
        | true =>
          obtain ⟨hb1, hb2, hb3⟩ := hl0 hbr
          have hil : i < ops.length := (List.getElem?_eq_some_iff.1 h1).1
          have hno := hb3 i hil (mem_ready.1 hi).1
          have h2' : resAK P T fr M (Nat.add base i) op (fun v M' => putK N fr d v fun fr' => againK P T chk hl M' (drawK P T ih N inR ops (noPan K) br base p hl fr' ds M' nx)) (operK P T ih N inR fr ds M nx d op (fun fr' ds' M' nx' => againK P T chk hl M' (drawK P T ih N inR ops (noPan K) br base p hl fr' ds' M' nx')) (noPan K)) = true := by
            rw [hbr] at h2 ⊢; exact h2
          rcases resAK_spec h2' s (show base + i < ρ.length by omega) hno with h2' | ⟨v, rv, e, M', w', g1, g2, g3, g4, g5⟩
          · exact slow h2'
          · have x1 : Le ρ (ρ.fill (base + i) e) := Le.fill ρ (by omega) hno e
            obtain ⟨fr', q1, q2⟩ := putK_spec (N := N) g2 (by rw [s.size, hN]) (s.slots.more x1) g1
            have s' : Rl T c (ρ.fill (base + i) e) fr' ds M' nx (a.put d rv) w' := ⟨by rw [put_size]; exact s.size, q2, by rw [put_defers]; exact renD_le x1 s.dfs, g3, by rw [Env.length_fill]; exact s.nx, s.same.trans g4, fun g i e' => x1 _ _ (s.glob g i e')⟩
            obtain ⟨p4, p5⟩ := againK_spec (c := c) s'.rep s'.same s'.glob q1 (all2_more x1 hp)
            refine wpIn_of_run (fun cl hcl => by subst hcl; have := noDefer_spec hnd h1' cl; exact this rfl) ?_
            rw [g5 ⟨d, op, ty, pos, af, g⟩ rfl]
            exact ⟨fun x hx ha _ => p5 x hx (hchk x hx ha), (drawK_spec hih hN hro hsel hnd p4 ok3 (all2_more x1 hp) hh (hc.set hi) s' (x0.fill (by omega) e) (hl0.fill hbr hil e)).hs⟩
      | false =>
        obtain ⟨fr', q1, q2⟩ := putK_spec (N := N) (show putK N fr d (.tup []) (fun fr' => drawK P T ih N inR ops (noPan K) br base p hl fr' ds M nx) = true from h2) (by rw [s.size, hN]) s.slots (r := undef) rfl
        refine ⟨(fun _ _ => trivial), fun _ _ _ q => q, (drawK_spec hih hN hro hsel hnd q1 ok3 hp hh (hc.set hi) ⟨by rw [put_size]; exact s.size, q2, by rw [put_defers]; exact s.dfs, s.rep, s.nx, s.same, s.glob⟩ x0 hl0.set).hs⟩
    · refine hrest.2 j hj ?_
      show (Bool.rec (hasN seen j) true (Nat.beq i j) : Bool) = false
      rw [Bool.eq_false_iff.2 e]; exact hs
  | .stop, hl, HL, held, seen, n, done, ρ, fr, ds, M, nx, a, w, h, ok, hp, hh, hc, s, x0, hl0 => by
    cases n with
    | zero => cases ok
    | succ n =>
    obtain ⟨ok1, ok2⟩ := both_eq.1 (show both (notB (isNilL (readyL ops done))) (allL (hasN seen) (readyL ops done)) = true from ok)
    refine ⟨fun e => ?_, fun j hj hs => ?_⟩
    · rw [show readyL ops done = [] from e] at ok1; cases ok1
    · have := allL_spec ok2 j hj
      rw [hs] at this; cases this

/-! ### a range over a function -/
def overK (N : Nat) (ih : EvT) (fr : Tr AV) (ds : List AD) (K : Kt) (l D : Nat) (M : Mem) (nx : Nat) : Bool := Option.rec false (fun ck => match ck with
  | .loop st pd fn fr0 N0 ps as bd D0 => (match st with
    | .busy => false
    | st => turnK M nx l (.loop .exhausted pd fn fr0 N0 ps as bd D0) fun M' nx' => Option.rec (K .normal fr (.mark D :: ds) M' nx') (fun c => ih c N false fr (.mark D :: ds) M' nx' K) pd)
  | _ => false) (M.get l)
def bodyK (T : Tabs P) (f : FuncId) (k : Bool) : Bool := Option.rec false (fun fn => Option.rec false (fun _ => k) fn.body) (T.F f)
theorem bodyK_spec {f : FuncId} {k : Bool} (h : bodyK T f k = true) : callable P f = true ∧ k = true := by
  obtain ⟨fn, h1, h⟩ := opt_rec h
  obtain ⟨b, h2, h⟩ := opt_rec h
  obtain ⟨hf, hname⟩ := T.okF _ _ h1
  exact ⟨by unfold callable; rw [hf]; simp [h2, hname], h⟩
def rangeFK (T : Tabs P) (ih : EvT) (N : Nat) (g : Operand) (ps : Array Tmp) (as bd : Code) (fr : Tr AV) (ds : List AD) (M : Mem) (nx : Nat) (K : Kt) : Bool := argK T fr g fun gv => match gv with
  | .fn (.func f) xs ys => bodyK T f (newK M nx (.dfr true) fun M1 nx1 => newK M1 nx1 (.loop .ready none 0 fr N ps.toList as bd nx) fun M2 nx2 => appL xs (.yl nx1 :: ys) fun all => callFK T ih f all M2 nx2 fun oc M3 nx3 => match oc with
    | .ret _ => overK N ih fr ds K nx1 nx M3 nx3
    | .pan v => K (.pan v) fr (.mark nx :: ds) M3 nx3)
  | _ => false
theorem rangeFK_spec {ih : EvT} (hih : Good T ih) {N : Nat} {g : Operand} {ps : Array Tmp} {as bd : Code} {fr : Tr AV} {ds : List AD} {M : Mem} {nx : Nat} {K : Kt} (h : rangeFK T ih N g ps as bd fr ds M nx K = true) {c : Cn} {ρ : Env} {a : Act} {w : World} (hN : c.N = N) (hro : c.ro = none) (s : Rl T c ρ fr ds M nx a w) :
    (Code.rangeFunc g ps as bd).wpIn (FW c.ro) 0 P (Post T c ρ K) a w := by
  obtain ⟨gv, gr, h1, h2⟩ := argK_spec (show argK T fr g (fun gv => match gv with
    | .fn (.func f) xs ys => bodyK T f (newK M nx (.dfr true) fun M1 nx1 => newK M1 nx1 (.loop .ready none 0 fr N ps.toList as bd nx) fun M2 nx2 => appL xs (.yl nx1 :: ys) fun all => callFK T ih f all M2 nx2 fun oc M3 nx3 => match oc with
      | .ret _ => overK N ih fr ds K nx1 nx M3 nx3
      | .pan v => K (.pan v) fr (.mark nx :: ds) M3 nx3)
    | _ => false) = true from h) s
  clear h
  cases gv <;> try (cases h2; done)
  rename_i fn xs ys
  cases fn <;> try (cases h2; done)
  rename_i f
  have e1 := h1.ren
  simp only [ren, Option.bind_eq_some_iff, Option.map_eq_some_iff] at e1
  obtain ⟨ur, hur, cr, hcr, rfl⟩ := e1
  obtain ⟨hc, h2⟩ := bodyK_spec h2
  -- the block for the rounds' deferred calls
  obtain ⟨M1, g1, g2, g3⟩ := newK_spec (κ := 0) (o := .deferred (some [])) h2 s (.inl rfl) rfl (show Sh _ _ _ _ (.dfr true) from rfl)
  let ρ1 := ρ ++ [(w.heap.size, 0, 0)]
  have x1 : Ext ρ ρ1 := Ext.one _ _
  have s1 : Rl T c ρ1 fr ds M1 ρ1.length a (w.alloc (.deferred (some []))) := ⟨s.size, s.slots.ext x1, renD_ext x1 s.dfs, g2, rfl, s.same.trans g3, glob_ext s.glob x1⟩
  -- the record
  refine wpIn_rangeFunc fun fnn _ => ?_
  obtain ⟨M2, g4, g5, g6⟩ := newK_spec (κ := 0) (o := .loop { state := .ready, pending := none, fn := fnn, tmps := a.tmps, params := ps, assign := as, body := bd, defers := w.heap.size }) g1 s1 (.inl rfl) rfl
    (show loopIs (ρ1 ++ [((w.alloc (.deferred (some []))).heap.size, 0, 0)]) (some _) .ready none 0 fr N ps.toList as bd nx from ⟨a.tmps, (w.heap.size, 0, 0), fnn, by rw [s.size, hN], (s1.slots.ext (Ext.one _ _)), by rw [← s.nx]; exact (Ext.one ρ1 _).get (by simp [ρ1]), by simp⟩)
  let ρ2 := ρ1 ++ [((w.alloc (.deferred (some []))).heap.size, 0, 0)]
  have x2 : Ext ρ1 ρ2 := Ext.one _ _
  let w2 := (w.alloc (.deferred (some []))).alloc (.loop { state := .ready, pending := none, fn := fnn, tmps := a.tmps, params := ps, assign := as, body := bd, defers := w.heap.size })
  have hsz : (w.alloc (.deferred (some []))).heap.size = w.heap.size + 1 := by simp
  have hl2 : ρ2[ρ1.length]? = some (w.heap.size + 1, 0, 0) := by simp [ρ2, hsz]
  have g4 : appL xs (.yl ρ1.length :: ys) (fun all => callFK T ih f all M2 ρ2.length fun oc M3 nx3 => match oc with
    | .ret _ => overK N ih fr ds K ρ1.length nx M3 nx3
    | .pan v => K (.pan v) fr (.mark nx :: ds) M3 nx3) = true := g4
  rw [appL_eq] at g4
  have hall : RL ρ2 (xs ++ (.yl ρ1.length :: ys)) (ur ++ (yv (w.heap.size + 1) :: cr)) := RL.append (ρ := ρ2) (renL_ext (x1.trans x2) hur) (RL.cons (by simp [ren, hl2]) (renL_ext (x1.trans x2) hcr))
  have hg2 := glob_ext (T := T) s.glob (x1.trans x2)
  obtain ⟨nxt, w1, c1, c2⟩ := callFK_spec hih g4 g5 rfl hg2 hall
  have hen := run_enterLoop_outer (P := P) (w := w) fnn a.tmps ps as bd
  rw [run_callFunc hc] at c1
  cases c1
  have c2 : Calls P f (ur ++ (yv (w.heap.size + 1) :: cr)).toArray w2 (CallPost T c.hF ρ2 w2 fun oc M3 nx3 => match oc with
    | .ret _ => overK N ih fr ds K ρ1.length nx M3 nx3
    | .pan v => K (.pan v) fr (.mark nx :: ds) M3 nx3) := c2
  have eargs : (⟨ur⟩ : Array Value) ++ #[yv (w.heap.size + 1)] ++ (⟨cr⟩ : Array Value) = (ur ++ (yv (w.heap.size + 1) :: cr)).toArray := by
    apply Array.ext'; simp
  have hcf := run_callFunc (P := P) hc ((⟨ur⟩ : Array Value) ++ #[yv (w.heap.size + 1)] ++ (⟨cr⟩ : Array Value)) w2
  refine ⟨w.heap.size + 1, [Sl.mark w.heap.size], w2, { target := .fn (.func f) ⟨cr⟩, args := ⟨ur⟩ ++ #[yv (w.heap.size + 1)] }, w2, f, (⟨ur⟩ : Array Value) ++ #[yv (w.heap.size + 1)] ++ (⟨cr⟩ : Array Value), w2, ?_, ?_, ?_, ?_, (fun hd => by cases hd), ?_⟩
  · show (Instr.enterLoop fnn a.tmps ps as bd c.ro).run P w = _
    rw [hro, hen]; rfl
  · simp only [resolve, h1.eval, Deferred.ofValue, List.map_toArray, List.map_cons, List.map_nil]; rfl
  · rw [hro]; exact fun _ _ => trivial
  · exact hcf
  rw [eargs]
  have c3 := (callsIn_wide (n := 0 - 1)).2 c2
  rw [hro]
  refine CallsIn.mono c3 ?_
  rintro e w3 ⟨ρ3, oc, M3, x3, q2, q3, q4, q5⟩
  have x0 : Ext ρ ρ3 := (x1.trans x2).trans x3
  have hD : ρ3[nx]? = some (w.heap.size, 0, 0) := (x2.trans x3).get (by rw [← s.nx]; simp [ρ1])
  have hd3 : renD ρ3 (.mark nx :: ds) = some (Sl.mark w.heap.size :: a.defers) := by simp [renD, hD, renD_ext x0 s.dfs]
  have hsame : Same c.w0 w3 := s.same.trans (g3.trans (g6.trans q5))
  have hg3 := glob_ext (T := T) s.glob x0
  cases oc with
  | pan v =>
    obtain ⟨r, p1, rfl⟩ := q2
    exact ⟨ρ3, .pan v, fr, .mark nx :: ds, M3, x0, ⟨r, p1, rfl⟩, q3, ⟨s.size, s.slots.ext x0, hd3, q4, rfl, hsame, hg3⟩⟩
  | ret v =>
    obtain ⟨r, p1, rfl⟩ := q2
    obtain ⟨ck, z0, q3⟩ := opt_rec q3
    cases ck <;> try (cases q3; done)
    rename_i st pd fn0 fr0 N0 ps0 as0 bd0 D0
    have s3 : Rl T c ρ3 fr ds M3 ρ3.length a w3 := ⟨s.size, s.slots.ext x0, renD_ext x0 s.dfs, q4, rfl, hsame, hg3⟩
    have hst : st ≠ .busy := by rintro rfl; cases q3
    have q3 : turnK M3 ρ3.length ρ1.length (.loop .exhausted pd fn0 fr0 N0 ps0 as0 bd0 D0) (fun M' nx' => Option.rec (K .normal fr (.mark nx :: ds) M' nx') (fun c => ih c N false fr (.mark nx :: ds) M' nx' K) pd) = true := by
      cases st <;> first | exact q3 | exact absurd rfl hst
    obtain ⟨en, r3, M4, z1, z2, z3, z4, z5, z6⟩ := loop_turn q3 s3 z0
    rw [x3.get hl2] at z1; cases z1
    have hend := run_endLoop (P := P) z2 (by rw [z3]; exact hst)
    rw [z4] at hend
    refine ⟨pd, _, hend, ?_⟩
    have s4 : Rl T c ρ3 fr (.mark nx :: ds) M4 ρ3.length { a with defers := [Sl.mark w.heap.size] ++ a.defers } (w3.putObj (w.heap.size + 1) (.loop { r3 with state := .exhausted, pending := pd })) := ⟨s.size, s.slots.ext x0, hd3, z6, rfl, hsame.trans (.putObj _ _ _), hg3⟩
    cases pd with
    | none => exact ⟨ρ3, .normal, fr, .mark nx :: ds, M4, x0, rfl, z5, s4⟩
    | some cc =>
      have := hih _ _ _ _ _ _ _ _ z5 c ρ3 _ _ hN (fun _ => hro) s4
      rw [hro] at this
      exact wpIn_mono this fun e a w q => Post.mono x0 q

/-! ### code -/
def loopK (ih : EvT) (c : Code) (N : Nat) (inR : Bool) (K : Kt) (L : Nat) : Tr AV → List AD → Mem → Nat → Bool := Nat.rec (fun _ _ _ _ => false) (fun _ rec fr ds M nx => ih c N inR fr ds M nx fun x fr ds M nx => match x with
  | .normal => rec fr ds M nx
  | x => K x fr ds M nx) L
def hasAlt (p : Pl) : Bool := Pl.rec false (fun _ _ ih => ih) (fun _ _ ih => ih) (fun _ _ _ q ihp _ => Bool.rec true ihp (Pl.rec (motive := fun _ => Bool) false (fun _ _ _ => false) (fun _ _ _ => false) (fun _ _ _ _ _ _ => false) true q)) false p
def brK (T : Tabs P) (ops : List Oper) (nx : Nat) (k : Bool → Nat → Bool) : Bool := Bool.rec (k false nx) (lenL ops 0 fun n => forceN (Nat.add nx n) fun nx' => k true nx') (hasAlt (plan2 T ops))
abbrev CdT := EvT → Nat → Bool → Tr AV → List AD → Mem → Nat → Kt → Bool
def c_skip : CdT := fun ih N inR fr ds M nx K => K .normal fr ds M nx
def c_region (P : Program) (T : Tabs P) (_ : Nat) (ops : Array Oper) (draw : Bool) : CdT := fun ih N inR fr ds M nx K => Bool.rec (listK P T ih N inR ops.toList K ops.toList fr ds M nx) (both (P.follows .mixedOrders) (both (okPlan2 T ops.toList) (brK T ops.toList nx fun br nx' => drawK P T ih N inR ops.toList (noPan K) br nx (plan2 T ops.toList) [] fr ds M nx'))) draw
def c_seq (x y : Code) (_ _ : CdT) : CdT := fun ih N inR fr ds M nx K => ih x N inR fr ds M nx fun e fr ds M nx => match e with
  | .normal => ih y N inR fr ds M nx K
  | e => K e fr ds M nx
def c_cond (T : Tabs P) (b : Operand) (x y : Code) (_ _ : CdT) : CdT := fun ih N inR fr ds M nx K => argK T fr b fun v => match v with
  | .bool b => Bool.rec (ih y N inR fr ds M nx K) (ih x N inR fr ds M nx K) b
  | _ => false
def c_block (id : Nat) (x : Code) (_ : CdT) : CdT := fun ih N inR fr ds M nx K => ih x N inR fr ds M nx fun e fr ds M nx => match e with
  | .exit id' => Bool.rec (K (.exit id') fr ds M nx) (K .normal fr ds M nx) (Nat.beq id' id)
  | e => K e fr ds M nx
def c_loop (x : Code) (_ : CdT) : CdT := fun ih N inR fr ds M nx K => loopK ih x N inR K 1000000 fr ds M nx
def c_rangeFunc (T : Tabs P) (g : Operand) (ps : Array Tmp) (as bd : Code) (_ _ : CdT) : CdT := fun ih N inR fr ds M nx K => Bool.rec (rangeFK T ih N g ps as bd fr ds M nx K) false inR
def c_exit (id : Nat) : CdT := fun ih N inR fr ds M nx K => K (.exit id) fr ds M nx
def c_scope (x : Code) (_ : CdT) : CdT := fun ih N inR fr ds M nx K => Bool.rec (ih x N inR fr ds M nx K) false inR
def c_label (_ : Nat) : CdT := fun ih N inR fr ds M nx K => K .normal fr ds M nx
def c_goto (_ : Nat) : CdT := fun _ _ _ _ _ _ _ _ => false
def c_ret : CdT := fun ih N inR fr ds M nx K => K .ret fr ds M nx
def c_refuse (_ : String) : CdT := fun _ _ _ _ _ _ _ _ => false
def codeXK (P : Program) (T : Tabs P) (c : Code) : CdT := Code.rec (motive := fun _ => CdT) c_skip (c_region P T) c_seq (c_cond T) c_block c_loop (c_rangeFunc T) c_exit c_scope c_label c_goto c_ret c_refuse c
def codeK (P : Program) (T : Tabs P) (ih : EvT) : EvT := fun c => codeXK P T c ih
theorem rounds_of {ih : EvT} (hih : Good T ih) {x : Code} {N : Nat} {inR : Bool} {K : Kt} {c : Cn} (hN : c.N = N) (hro : inR = false → c.ro = none) : ∀ {L : Nat} {ρ : Env} {fr : Tr AV} {ds : List AD} {M : Mem} {nx : Nat} {a : Act} {w : World}, loopK ih x N inR K L fr ds M nx = true → Rl T c ρ fr ds M nx a w → Code.roundsIn (FW c.ro) 0 P x (Post T c ρ K) L a w
  | 0, ρ, fr, ds, M, nx, a, w, h, s => by cases h
  | L + 1, ρ, fr, ds, M, nx, a, w, h, s => by
    refine wpIn_mono (hih _ _ _ _ _ _ _ _ (show ih x N inR fr ds M nx (fun x' fr ds M nx => match x' with
      | .normal => loopK ih x N inR K L fr ds M nx
      | x' => K x' fr ds M nx) = true from h) c ρ a w hN hro s) ?_
    rintro e a w ⟨ρ', x', fr', ds', M', p1, p2, p3, p4⟩
    cases x' with
    | normal =>
      obtain rfl := p2
      show Code.roundsIn _ _ _ _ _ _ _ _
      have mono : ∀ {L : Nat} {a : Act} {w : World}, Code.roundsIn (FW c.ro) 0 P x (Post T c ρ' K) L a w → Code.roundsIn (FW c.ro) 0 P x (Post T c ρ K) L a w := by
        intro L
        induction L with
        | zero => intro a w h; exact h
        | succ L ih' =>
          intro a w h
          refine wpIn_mono h fun e a w q => ?_
          cases e with
          | normal => exact ih' q
          | _ => exact Post.mono p1 q
      exact mono (rounds_of hih hN hro p3 p4)
    | exit id => obtain rfl := p2; exact ⟨ρ', .exit id, fr', ds', M', p1, rfl, p3, p4⟩
    | ret => obtain rfl := p2; exact ⟨ρ', .ret, fr', ds', M', p1, rfl, p3, p4⟩
    | pan v => obtain ⟨r, p5, rfl⟩ := p2; exact ⟨ρ', .pan v, fr', ds', M', p1, ⟨r, p5, rfl⟩, p3, p4⟩
theorem codeK_good {ih : EvT} (hih : Good T ih) : Good T (codeK P T ih) := fun code N inR fr ds M nx K h c ρ a w hN hro s => by
  have here : ∀ {x : Ex} {e : Exit}, ExR ρ x e → K x fr ds M nx = true → Post T c ρ K e a w := fun h1 h2 => ⟨ρ, _, fr, ds, M, .refl ρ, h1, by rw [s.nx]; exact h2, ⟨s.size, s.slots, s.dfs, s.rep, rfl, s.same, s.glob⟩⟩
  cases code with
  | skip => exact wpIn_skip (here (x := .normal) rfl h)
  | region id ops draw =>
    obtain ⟨ops⟩ := ops
    cases draw with
    | true =>
      obtain ⟨hm, h⟩ := both_eq.1 (show both (P.follows .mixedOrders) (both (okPlan2 T ops) (brK T ops nx fun br nx' => drawK P T ih N inR ops (noPan K) br nx (plan2 T ops) [] fr ds M nx')) = true from h)
      obtain ⟨h1, h⟩ := both_eq.1 h
      have h1 := okPlan2_spec h1
      obtain ⟨h2, h1⟩ := both_eq.1 h1
      obtain ⟨h3, h1⟩ := both_eq.1 h1
      have s' : Rl T c ρ fr ds M nx a { w with drawn := w.drawn + 1 } := ⟨s.size, s.slots, s.dfs, ⟨s.rep.own, s.rep.inj, s.rep.frame⟩, s.nx, s.same.trans ⟨rfl, rfl, rfl, Nat.le_refl _⟩, s.glob⟩
      have hc : Closed ops.toArray (Array.replicate ops.length false) := by have := Closed.none (ops := ops.toArray); simpa using this
      have hd : Hs c.ro P ops.toArray (Post T c ρ (noPan K)) (Sof P ops []) ops.length (Array.replicate ops.length false) a { w with drawn := w.drawn + 1 } := by
        unfold brK at h
        cases hbr : hasAlt (plan2 T ops) with
        | false =>
          rw [hbr] at h
          exact (drawK_spec hih hN hro h2 h3 (HL := []) (ρ0 := ρ) h h1 trivial (by simp) hc s' (.refl ρ) (fun q => by cases q)).hs
        | true =>
          rw [hbr] at h
          have h : (lenL ops 0 fun n => forceN (Nat.add nx n) fun nx' => drawK P T ih N inR ops (noPan K) true nx (plan2 T ops) [] fr ds M nx') = true := h
          rw [lenL_eq, forceN_eq] at h
          have x1 : Ext ρ (ρ.pad ops.length) := Ext.pad ρ _
          have s2 : Rl T c (ρ.pad ops.length) fr ds M (nx + ops.length) a { w with drawn := w.drawn + 1 } := ⟨s'.size, s'.slots.ext x1, renD_ext x1 s'.dfs, s'.rep.ext x1, by rw [Env.length_pad, s'.nx], s'.same, glob_ext s'.glob x1⟩
          exact (drawK_spec hih hN hro h2 h3 (HL := []) (ρ0 := ρ) h h1 trivial (by simp) hc s2 x1 (fun _ => ⟨s'.nx.symm, by rw [Env.length_pad, s'.nx]; exact Nat.le_refl _, fun i hi _ => by
            rw [Env.get_pad]
            cases q : ρ[nx + i]? with
            | none => rfl
            | some e => have := Env.get_lt q; rw [s'.nx] at this; omega⟩)).hs
      refine wpIn_mono (Q := Post T c ρ (noPan K)) (wpIn_region_any hm (Hs.any (S := Sof P ops []) _ _ _ _ ?_)) fun e a w q => noPan_post q
      simpa using hd
    | false => exact wpIn_region_lit (listK_spec hih hN hro h s)
  | seq x y =>
    refine wpIn_seq (wpIn_mono (hih _ _ _ _ _ _ _ _ (show ih x N inR fr ds M nx (fun e fr ds M nx => match e with
      | .normal => ih y N inR fr ds M nx K
      | e => K e fr ds M nx) = true from h) c ρ a w hN hro s) ?_)
    rintro e a w ⟨ρ', x', fr', ds', M', p1, p2, p3, p4⟩
    cases x' with
    | normal =>
      obtain rfl := p2
      exact wpIn_mono (hih _ _ _ _ _ _ _ _ p3 c ρ' a w hN hro p4) fun e a w q => q.mono p1
    | exit id => obtain rfl := p2; exact ⟨ρ', .exit id, fr', ds', M', p1, rfl, p3, p4⟩
    | ret => obtain rfl := p2; exact ⟨ρ', .ret, fr', ds', M', p1, rfl, p3, p4⟩
    | pan v => obtain ⟨r, p5, rfl⟩ := p2; exact ⟨ρ', .pan v, fr', ds', M', p1, ⟨r, p5, rfl⟩, p3, p4⟩
  | cond b x y =>
    obtain ⟨v, r, h1, h2⟩ := argK_spec (show argK T fr b (fun v => match v with
      | .bool b => Bool.rec (ih y N inR fr ds M nx K) (ih x N inR fr ds M nx K) b
      | _ => false) = true from h) s
    cases v <;> try (cases h2; done)
    rename_i b
    obtain rfl : r = .bool b := by simpa [ren] using h1.ren.symm
    cases b with
    | false => exact wpIn_cond_false h1.eval (hih _ _ _ _ _ _ _ _ h2 c ρ a w hN hro s)
    | true => exact wpIn_cond_true h1.eval (hih _ _ _ _ _ _ _ _ h2 c ρ a w hN hro s)
  | block id x =>
    refine wpIn_block (wpIn_mono (hih _ _ _ _ _ _ _ _ (show ih x N inR fr ds M nx (fun e fr ds M nx => match e with
      | .exit id' => Bool.rec (K (.exit id') fr ds M nx) (K .normal fr ds M nx) (Nat.beq id' id)
      | e => K e fr ds M nx) = true from h) c ρ a w hN hro s) ?_)
    rintro e a w ⟨ρ', x', fr', ds', M', p1, p2, p3, p4⟩
    cases x' with
    | normal => obtain rfl := p2; exact ⟨ρ', .normal, fr', ds', M', p1, rfl, p3, p4⟩
    | exit id' =>
      obtain rfl := p2
      have p3 : (Bool.rec (K (.exit id') fr' ds' M' ρ'.length) (K .normal fr' ds' M' ρ'.length) (Nat.beq id' id) : Bool) = true := p3
      cases q : Nat.beq id' id with
      | true =>
        rw [q] at p3
        have := Nat.eq_of_beq_eq_true q
        show Exit.inBlock id _ _ _ _
        simp only [Exit.inBlock, this, if_true]
        exact ⟨ρ', .normal, fr', ds', M', p1, rfl, p3, p4⟩
      | false =>
        rw [q] at p3
        have : id' ≠ id := fun e => by subst e; simp at q
        show Exit.inBlock id _ _ _ _
        simp only [Exit.inBlock, if_neg this]
        exact ⟨ρ', .exit id', fr', ds', M', p1, rfl, p3, p4⟩
    | ret => obtain rfl := p2; exact ⟨ρ', .ret, fr', ds', M', p1, rfl, p3, p4⟩
    | pan v => obtain ⟨r, p5, rfl⟩ := p2; exact ⟨ρ', .pan v, fr', ds', M', p1, ⟨r, p5, rfl⟩, p3, p4⟩
  | loop x => exact wpIn_loop_rounds 1000000 (rounds_of hih hN hro h s)
  | rangeFunc g ps as bd =>
    cases inR with
    | true => cases h
    | false => exact rangeFK_spec hih h hN (hro rfl) s
  | exit id => exact wpIn_exit (here (x := .exit id) rfl h)
  | scope x =>
    cases inR with
    | true => cases h
    | false =>
      have h1 := hih _ _ _ _ _ _ _ _ (show ih x N false fr ds M nx K = true from h) c ρ a w hN hro s
      have hro := hro rfl
      rw [hro] at h1 ⊢
      have h2 : x.wpIn (FW none) 0 P (Exit.noGoto (Post T c ρ K)) a w := wpIn_mono h1 fun e a w q => by
        cases e with
        | goto l =>
          obtain ⟨ρ', x', fr', ds', M', p1, p2, p3, p4⟩ := q
          cases x' with
          | pan v => obtain ⟨r, p5, p6⟩ := p2; cases p6
          | _ => cases p2
        | _ => exact q
      exact (wpIn_wide (n := 0)).2 (wp_scope_straight ((wpIn_wide (n := 0)).1 h2))
  | label l => exact wpIn_label (here (x := .normal) rfl h)
  | ret => exact wpIn_ret (here (x := .ret) rfl h)
  | _ => cases h
/-- The evaluator: so many levels deep. -/
def ev (P : Program) (T : Tabs P) (n : Nat) : EvT := Nat.rec (fun _ _ _ _ _ _ _ _ => false) (fun _ ih => codeK P T ih) n
theorem ev_good : ∀ n, Good T (ev P T n)
  | 0 => fun code N inR fr ds M nx K h => by cases h
  | n + 1 => codeK_good (ev_good n)
end
end Go.Ev
set_option linter.unusedSimpArgs false
set_option linter.unusedVariables false
namespace Go.Ev
open Go.Sl
noncomputable section
variable {P : Program}
def look2 {α : Type} (ll : List (List (Option α))) (t : Nat) : Option α := Option.rec none (fun l => Option.rec none (fun x => x) (nth l (Nat.mod t 16))) (nth ll (Nat.div t 16))
theorem look2_eq {α : Type} (ll : List (List (Option α))) (t : Nat) : look2 ll t = (ll[t / 16]?).bind fun l => (l[t % 16]?).bind id := by
  unfold look2
  rw [nth_eq]
  show (Option.rec none (fun l => Option.rec none (fun x => x) (nth l (Nat.mod t 16))) (ll[t / 16]?) : Option α) = _
  cases ll[t / 16]? with
  | none => rfl
  | some l =>
    show (Option.rec none (fun x => x) (nth l (Nat.mod t 16)) : Option α) = _
    rw [nth_eq]
    show (Option.rec none (fun x => x) (l[t % 16]?) : Option α) = _
    show _ = (l[t % 16]?).bind id
    cases l[t % 16]? with
    | none => rfl
    | some x => rfl
/-- All rows but the last are of sixteen. -/
def full16 {α : Type} : List (List α) → Bool
  | [] => true
  | [_] => true
  | l :: m :: r => l.length == 16 && full16 (m :: r)
theorem look2_flat {α : Type} : ∀ {ll : List (List (Option α))} (h : full16 ll = true) (hl : ∀ l ∈ ll, l.length ≤ 16) {t : Nat} {x : α}, look2 ll t = some x → ll.flatten[t]? = some (some x)
  | [], _, _, t, x, e => by rw [look2_eq] at e; simp at e
  | [l], _, hl, t, x, e => by
    rw [look2_eq] at e
    obtain ⟨m, h1, h2⟩ := Option.bind_eq_some_iff.1 e
    obtain ⟨y, h3, h4⟩ := Option.bind_eq_some_iff.1 h2
    simp only [id] at h4; subst h4
    have h0 : t / 16 = 0 := by
      have := (List.getElem?_eq_some_iff.1 h1).1
      simp at this; omega
    rw [h0] at h1
    simp at h1
    subst h1
    have : t % 16 = t := by omega
    rw [this] at h3
    simpa using h3
  | l :: m :: r, h, hl, t, x, e => by
    simp only [full16, Bool.and_eq_true, beq_iff_eq] at h
    obtain ⟨h16, h⟩ := h
    by_cases ht : t < 16
    · rw [look2_eq] at e
      have h0 : t / 16 = 0 := by omega
      have h1 : t % 16 = t := by omega
      rw [h0, h1] at e
      simp only [List.getElem?_cons_zero, Option.bind_some] at e
      obtain ⟨y, h3, h4⟩ := Option.bind_eq_some_iff.1 e
      simp only [id] at h4; subst h4
      rw [List.flatten_cons, List.getElem?_append_left (by omega)]; exact h3
    · have e' : look2 (m :: r) (t - 16) = some x := by
        rw [look2_eq] at e ⊢
        have h0 : t / 16 = (t - 16) / 16 + 1 := by omega
        have h1 : t % 16 = (t - 16) % 16 := by omega
        rw [h0, h1] at e
        simpa using e
      have := look2_flat h (fun l hl' => hl l (by simp [hl'])) e'
      rw [List.flatten_cons, List.getElem?_append_right (by omega), h16]; exact this
def le16 {α : Type} (ll : List (List α)) : Bool := ll.all fun l => Nat.ble l.length 16

/-! ### types -/
def chkTD (P : Program) (t : TypeId) (d : TD) : Bool := match d, P.underlying t with
  | .bool, some .bool => true
  | .int k, some (.int k') => k == k'
  | .str, some .string => true
  | .ptr, some (.pointer _) => true
  | .sl e, some (.slice e') => e == e'
  | .arr n e, some (.array n' e') => n == n' && e == e'
  | .map k e, some (.map k' e') => k == k' && e == e'
  | .st fs, some (.struct _) => placesOf P t == some (fs.map fun f => (f.1, f.2.2)) && (List.range fs.length).all fun i => match fs[i]? with
    | some (o, u, z) => fieldInfo P t i == some (o, u) && tsize P u == some z
    | none => true
  | .fn, some (.func _ _ _) => true
  | .ifc, some (.interface _) => true
  | .other, _ => true
  | _, _ => false
def chkRow (P : Program) (t : TypeId) (r : TRow) : Bool := tsize P t == some r.size && tbytes P t == some r.bytes && chkTD P t r.td
theorem chkTD_ok {t : TypeId} {d : TD} (h : chkTD P t d = true) : TDok P t d := by
  unfold chkTD at h
  split at h <;> simp only [TDok] <;> rename_i hu
  all_goals first
    | exact hu
    | exact ⟨_, hu⟩
    | exact ⟨_, _, _, hu⟩
    | (simp only [beq_iff_eq] at h; subst h; exact hu)
    | (simp only [Bool.and_eq_true, beq_iff_eq] at h; obtain ⟨rfl, rfl⟩ := h; exact hu)
    | cases h
    | skip
  · rename_i fs a
    simp only [Bool.and_eq_true, beq_iff_eq] at h
    refine ⟨_, hu, h.1, fun i o u z hi => ?_⟩
    have hlt := (List.getElem?_eq_some_iff.1 hi).1
    have := List.all_eq_true.1 h.2 i (by simpa using hlt)
    rw [hi] at this
    simp only [Bool.and_eq_true, beq_iff_eq] at this
    exact this
theorem chkRow_ok {t : TypeId} {r : TRow} (h : chkRow P t r = true) : RowOk P t r := by
  unfold chkRow at h
  simp only [Bool.and_eq_true, beq_iff_eq] at h
  exact ⟨h.1.1, h.1.2, chkTD_ok h.2⟩
def chkT (P : Program) (ll : List (List (Option TRow))) : Bool := (List.range (ll.length * 16)).all fun t => match look2 ll t with
  | some r => chkRow P t r
  | none => true
theorem chkT_ok {ll : List (List (Option TRow))} (h : chkT P ll = true) : ∀ t r, look2 ll t = some r → RowOk P t r := fun t r e => by
  have hlt : t < ll.length * 16 := by
    rw [look2_eq] at e
    obtain ⟨l, h1, _⟩ := Option.bind_eq_some_iff.1 e
    have := (List.getElem?_eq_some_iff.1 h1).1
    omega
  have := List.all_eq_true.1 h t (by simpa using hlt)
  rw [e] at this
  exact chkRow_ok this
/-! ### functions -/
theorem chkF_ok {ll : List (List (Option Func))} {k : Nat} (h1 : full16 ll = true) (h2 : le16 ll = true) (h3 : ll.flatten = P.funcs.toList.map some) (h4 : P.funcs.toList.all (fun fn => !(fn.name == "runtime.NumGoroutine")) = true) :
    ∀ f fn, look2 ll f = some fn → P.funcs[f]? = some fn ∧ (fn.name == "runtime.NumGoroutine") = false := fun f fn e => by
  have hl : ∀ l ∈ ll, l.length ≤ 16 := fun l hl => by
    have := List.all_eq_true.1 h2 l hl
    simpa using this
  have := look2_flat h1 hl e
  rw [h3, List.getElem?_map] at this
  obtain ⟨x, hx, hx2⟩ := Option.map_eq_some_iff.1 this
  cases hx2
  refine ⟨by rw [← hx]; simp, ?_⟩
  have := List.all_eq_true.1 h4 fn (List.mem_of_getElem? hx)
  simpa using this

/-! ### a law's end -/
def isTrue : Oc → Mem → Nat → Bool := fun oc _ _ => match oc with
  | .ret (.bool b) => b
  | _ => false
/-- A function that yields true, by the evaluator's word. -/
theorem law_true {T : Tabs P} {n : Nat} {f : FuncId} {vs : List AV} {M : Mem} {ρ : Env} {rs : List Value} {hF : Hp} (hc : callable P f = true) (h : callFK T (ev P T n) f vs M ρ.length isTrue = true) (hM : ∀ w, Sat [] hF w → Rep ρ M hF w) (hg : ∀ g i, T.gl g = some i → ρ[i]? = some (g, 0, 0)) (hv : RL ρ vs rs) :
    FnOk P f rs [] hF (fun v Γ => v = .bool true ∧ Γ = []) := fun w hs => by
  obtain ⟨nx, w1, h1, h2⟩ := callFK_spec (ev_good n) h (hM w hs) rfl hg hv
  rw [run_callFunc hc] at h1
  cases h1
  refine Calls.mono h2 ?_
  rintro e w' ⟨ρ', oc, M', q1, q2, q3, q4, q5⟩
  cases oc with
  | pan v => cases q3
  | ret v =>
    obtain ⟨r, p1, rfl⟩ := q2
    cases v <;> try (cases q3; done)
    rename_i b
    have hb : b = true := q3
    subst hb
    obtain rfl : r = .bool true := by simpa [ren] using p1.symm
    exact ⟨.bool true, [], rfl, ⟨rfl, rfl⟩, ⟨[], trivial, by simp [Apart], q4.frame, by simp⟩, q5⟩
theorem rep_nil {hF : Hp} {w : World} (h : Sat [] hF w) : Rep ⟨[]⟩ (.nil : Mem) hF w := by
  obtain ⟨_, _, _, hl, _⟩ := h
  exact ⟨(fun i ck e => by cases e), (fun i j ck ck' e e' h => by cases h), hl⟩
end
end Go.Ev
