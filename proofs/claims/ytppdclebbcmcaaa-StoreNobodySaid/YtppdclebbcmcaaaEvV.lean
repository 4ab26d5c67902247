/- The evaluator, part V: statements whose order is open: the plain part. -/
import Derived.Test.YtppdclebbcmcaaaEvS
set_option linter.unusedSimpArgs false
set_option linter.unusedVariables false
namespace Go.Ev
open Go.Sl
noncomputable section
section
variable {P : Program} {ops : Array Oper} {Q Q' : Exit → Act → World → Prop} {ro : Option Nat} {S S' : Nat → World → World → Prop}

/-- Whatever comes up next; operation i keeps to S i: the world ahead of it, the world behind it. -/
def Hs (ro : Option Nat) (P : Program) (ops : Array Oper) (Q : Exit → Act → World → Prop) (S : Nat → World → World → Prop) : Nat → Array Bool → Act → World → Prop
  | 0, done, a, w => Region.ready .any ops done = [] ∧ Q .normal a w
  | n + 1, done, a, w => (Region.ready .any ops done = [] → Q .normal a w) ∧
    ∀ i ∈ Region.ready .any ops done, wpOpIn (FW ro) 0 P ops Q i (fun a' w' => S i w w' ∧ Hs ro P ops Q S n (done.setIfInBounds i true) a' w') a w
theorem Hs.any : ∀ (n : Nat) (done : Array Bool) (a : Act) (w : World), Hs ro P ops Q S n done a w → wpAnyIn (FW ro) 0 P .any ops Q n done a w
  | 0, _, _, _, h => h
  | n + 1, _, _, _, h => ⟨h.1, fun i hi => wpOpIn_mono (fun a' w' k => Hs.any n _ a' w' k.2) (h.2 i hi)⟩
theorem Hs.mono (hS : ∀ i w w', S i w w' → S' i w w') : ∀ (n : Nat) (done : Array Bool) (a : Act) (w : World), Hs ro P ops Q S n done a w → Hs ro P ops Q S' n done a w
  | 0, _, _, _, h => h
  | n + 1, _, _, _, h => ⟨h.1, fun i hi => wpOpIn_mono (fun a' w' k => ⟨hS _ _ _ k.1, Hs.mono hS n _ a' w' k.2⟩) (h.2 i hi)⟩
theorem wpOpIn_monoQ {i : Nat} {K : Act → World → Prop} {a : Act} {w : World} (hQ : ∀ e a w, Q e a w → Q' e a w) (h : wpOpIn (FW ro) 0 P ops Q i K a w) : wpOpIn (FW ro) 0 P ops Q' i K a w := by
  unfold Go.wpOpIn at *
  cases ho : ops[i]? with
  | none => simp only [ho] at h ⊢; exact h
  | some o =>
    simp only [ho] at h ⊢
    split
    · rename_i e; simp only [e, if_true] at h
      exact Oper.wpIn_monoQ hQ h
    · rename_i e; simp only [e] at h
      exact h
theorem Hs.monoQ (hQ : ∀ e a w, Q e a w → Q' e a w) : ∀ (n : Nat) (done : Array Bool) (a : Act) (w : World), Hs ro P ops Q S n done a w → Hs ro P ops Q' S n done a w
  | 0, _, _, _, h => ⟨h.1, hQ _ _ _ h.2⟩
  | n + 1, _, _, _, h => ⟨fun e => hQ _ _ _ (h.1 e), fun i hi => wpOpIn_mono (fun a' w' k => ⟨k.1, Hs.monoQ hQ n _ a' w' k.2⟩) (wpOpIn_monoQ hQ (h.2 i hi))⟩

/-- Number i, which yields v wherever R holds, is taken first. -/
theorem Hs.take {R : World → Prop} {i : Nat} {oi : Oper} {v : Value} (hi : ops[i]? = some oi) (hsel : Region.noSelect ops = true) (hnd : noDefer ops = true) (hQ : ∀ c a w, Q (.panic c) (a.put oi.dst v) w → Q (.panic c) a w)
    (hS : ∀ w, S i w w) (hR : ∀ j w w', anc ops ops.size j i = false → S j w w' → R w → R w') :
    ∀ (n : Nat) (done : Array Bool) (a : Act) (w : World), Closed ops done → (∀ j oj, ops[j]? = some oj → j ≠ i → done.getD j true = false → (∀ e ∈ oj.after, Region.binds .any e = true → e.on ≠ i) → oi.apart ops oj = true) →
      i ∈ Region.ready .any ops done → YieldsIf P ops R oi v a → R w → Hs ro P ops Q S n (done.setIfInBounds i true) (a.put oi.dst v) w → Hs ro P ops Q S (n + 1) done a w := by
  have self : ∀ (n : Nat) (done : Array Bool) (a : Act) (w : World), YieldsIf P ops R oi v a → R w → Hs ro P ops Q S n (done.setIfInBounds i true) (a.put oi.dst v) w →
      wpOpIn (FW ro) 0 P ops Q i (fun a' w' => S i w w' ∧ Hs ro P ops Q S n (done.setIfInBounds i true) a' w') a w :=
    fun n done a w hy hr H => YieldsIf.wpOpIn hi (noDefer_spec hnd hi) hy hr ⟨hS w, H⟩
  intro n
  induction n with
  | zero =>
    intro done a w _ _ hr hy hw H
    refine ⟨fun h => absurd hr (by rw [h]; simp), fun j hj => ?_⟩
    by_cases e : j = i
    · subst e; exact self 0 done a w hy hw H
    · exact absurd (ready_mono hj e) (by rw [H.1]; simp)
  | succ n ih =>
    intro done a w hcl hfree hr hy hw H
    refine ⟨fun h => absurd hr (by rw [h]; simp), fun j hj => ?_⟩
    by_cases e : j = i
    · subst e; exact self (n + 1) done a w hy hw H
    obtain ⟨hun, oj, hoj, hall⟩ := mem_ready.1 hj
    have hun' : done.getD i false = false := getD_both' (mem_ready.1 hr).1
    have hnot : ∀ x ∈ oj.after, Region.binds .any x = true → x.on ≠ i := fun x hx hb q => by
      have h1 := hall x hx hb
      rw [q, hun'] at h1; cases h1
    have hanc : anc ops ops.size j i = false := by
      cases hc : anc ops ops.size j i with
      | false => rfl
      | true =>
        have := anc_done hcl _ j i oj hoj hall hc
        rw [hun'] at this; cases this
    have h2 := wpOpIn_putIf hoj (noDefer_spec hnd hoj) (hfree j oj hoj e hun hnot) (fun cs b => Region.noSelect_spec hsel i oi cs b hi) (fun cs b => Region.noSelect_spec hsel j oj cs b hoj) hQ hy (H.2 j (ready_mono hj e))
    refine wpOpIn_mono (fun a' w' h3 => ?_) h2
    obtain ⟨hy', hS', H'⟩ := h3
    rw [Array.setIfInBounds_comm _ _ (Ne.symm e)] at H'
    refine ⟨hS', ih _ a' w' (hcl.set hj) (fun k ok hk hki hund hno => hfree k ok hk hki ?_ hno) (ready_mono hr (Ne.symm e)) hy' (hR j w w' hanc hS' hw) H'⟩
    by_cases q : j = k
    · subst q; exact hun
    · rwa [getD_set_ne true q] at hund
end

/-! ### plans -/
/-- A plan: taken first (it asks nothing of the world), taken and held, one of those that may come up (chk: what is held and may yet be to come there). -/
inductive Pl where
  | fin
  | take (i : Nat) (p : Pl)
  | hold (i : Nat) (p : Pl)
  | alt (i : Nat) (chk : List Nat) (p q : Pl)
  | stop
def readyL (ops : List Oper) (done : Array Bool) : List Nat := Region.ready .any ops.toArray done
def hasN (l : List Nat) (i : Nat) : Bool := List.rec false (fun x _ ih => Bool.rec ih true (Nat.beq x i)) l
theorem hasN_spec : ∀ {l : List Nat} {i : Nat}, hasN l i = true → i ∈ l
  | x :: l, i, h => by
    have h : (Bool.rec (hasN l i) true (Nat.beq x i) : Bool) = true := h
    cases q : Nat.beq x i with
    | true => rw [Nat.eq_of_beq_eq_true q]; simp
    | false => rw [q] at h; exact List.mem_cons_of_mem _ (hasN_spec h)
def isNilL (l : List Nat) : Bool := List.rec true (fun _ _ _ => false) l
theorem isNilL_spec {l : List Nat} (h : isNilL l = true) : l = [] := by cases l <;> first | rfl | cases h
/-- Does the plan fit? n: so many may yet come; held: what is held; seen: of those that may come up, which are provided for. -/
def okPl (ops : List Oper) (p : Pl) : Nat → Array Bool → List Nat → List Nat → Bool :=
  Pl.rec (fun _ done _ _ => isNilL (readyL ops done))
    (fun i _ ih n done held _ => Nat.rec false (fun n _ => both (hasN (readyL ops done) i) (both (Region.free .any ops.toArray done i) (ih n (done.setIfInBounds i true) held []))) n)
    (fun i _ ih n done held _ => Nat.rec false (fun n _ => both (hasN (readyL ops done) i) (both (Region.free .any ops.toArray done i) (ih n (done.setIfInBounds i true) (i :: held) []))) n)
    (fun i chk _ _ ihp ihq n done held seen => Nat.rec false (fun m _ => both (hasN (readyL ops done) i) (both (allL (fun h => Bool.rec (anc ops.toArray ops.toArray.size i h) true (hasN chk h)) held) (both (ihp m (done.setIfInBounds i true) held []) (ihq n done held (i :: seen))))) n)
    (fun n done _ seen => Nat.rec false (fun _ _ => both (notB (isNilL (readyL ops done))) (allL (hasN seen) (readyL ops done))) n) p
def okPlan (ops : List Oper) (p : Pl) : Bool := both (Region.noSelect ops.toArray) (both (noDefer ops.toArray) (okPl ops p ops.length (Array.replicate ops.length false) [] []))
/-- What is owed at a point of a plan. -/
def Owed (ro : Option Nat) (P : Program) (ops : List Oper) (Q : Exit → Act → World → Prop) (S : Nat → World → World → Prop) (seen : List Nat) : Nat → Array Bool → Act → World → Prop
  | 0, done, a, w => Hs ro P ops.toArray Q S 0 done a w
  | n + 1, done, a, w => (Region.ready .any ops.toArray done = [] → Q .normal a w) ∧
    ∀ i ∈ Region.ready .any ops.toArray done, hasN seen i = false → wpOpIn (FW ro) 0 P ops.toArray Q i (fun a' w' => S i w w' ∧ Hs ro P ops.toArray Q S n (done.setIfInBounds i true) a' w') a w
theorem Owed.hs {ro : Option Nat} {P : Program} {ops : List Oper} {Q : Exit → Act → World → Prop} {S : Nat → World → World → Prop} : ∀ {n : Nat} {done : Array Bool} {a : Act} {w : World}, Owed ro P ops Q S [] n done a w → Hs ro P ops.toArray Q S n done a w
  | 0, _, _, _, h => h
  | n + 1, _, _, _, h => ⟨h.1, fun i hi => h.2 i hi rfl⟩
theorem Hs.owed {ro : Option Nat} {P : Program} {ops : List Oper} {Q : Exit → Act → World → Prop} {S : Nat → World → World → Prop} {seen : List Nat} : ∀ {n : Nat} {done : Array Bool} {a : Act} {w : World}, Hs ro P ops.toArray Q S n done a w → Owed ro P ops Q S seen n done a w
  | 0, _, _, _, h => h
  | n + 1, _, _, _, h => ⟨h.1, fun i hi _ => h.2 i hi⟩

/-! ### the same value again -/
def eqB (b c : Bool) : Bool := Bool.rec (notB c) c b
theorem eqB_spec {b c : Bool} (h : eqB b c = true) : b = c := by cases b <;> cases c <;> first | rfl | cases h
def eqI (m n : Int) : Bool := Int.rec (fun x => Int.rec (fun y => Nat.beq x y) (fun _ => false) n) (fun x => Int.rec (fun _ => false) (fun y => Nat.beq x y) n) m
theorem eqI_spec {m n : Int} (h : eqI m n = true) : m = n := by
  cases m <;> cases n <;> first | cases h | skip
  · rw [Nat.eq_of_beq_eq_true (show Nat.beq _ _ = true from h)]
  · rw [Nat.eq_of_beq_eq_true (show Nat.beq _ _ = true from h)]
def eqLs (f : AV → AV → Bool) (l : List AV) : List AV → Bool := List.rec (fun m => List.rec true (fun _ _ _ => false) m) (fun x _ ih m => List.rec false (fun y t _ => both (f x y) (ih t)) m) l
theorem eqLs_spec {f : AV → AV → Bool} (hf : ∀ x y, f x y = true → x = y) : ∀ {l m : List AV}, eqLs f l m = true → l = m
  | [], [], _ => rfl
  | [], _ :: _, h => by cases h
  | _ :: _, [], h => by cases h
  | x :: l, y :: m, h => by
    obtain ⟨h1, h2⟩ := both_eq.1 (show both (f x y) (eqLs f l m) = true from h)
    rw [hf x y h1, eqLs_spec hf h2]
def eqStep (f : AV → AV → Bool) (v u : AV) : Bool := match v with
  | .bool b => (match u with | .bool c => eqB b c | _ => false)
  | .int k m => (match u with | .int k' n => both (decide (k = k')) (eqI m n) | _ => false)
  | .str l => (match u with | .str m => eqN l m | _ => false)
  | .nilp => (match u with | .nilp => true | _ => false)
  | .ptr i o => (match u with | .ptr i' o' => both (Nat.beq i i') (Nat.beq o o') | _ => false)
  | .nils => (match u with | .nils => true | _ => false)
  | .sl i o n c s => (match u with | .sl i' o' n' c' s' => both (Nat.beq i i') (both (Nat.beq o o') (both (Nat.beq n n') (both (Nat.beq c c') (eqB s s')))) | _ => false)
  | .nilm => (match u with | .nilm => true | _ => false)
  | .map i => (match u with | .map j => Nat.beq i j | _ => false)
  | .nilf => (match u with | .nilf => true | _ => false)
  | .nili => (match u with | .nili => true | _ => false)
  | .fn (.func g) xs ys => (match u with | .fn (.func g') xs' ys' => both (Nat.beq g g') (both (eqLs f xs xs') (eqLs f ys ys')) | _ => false)
  | .iface t x => (match u with | .iface t' y => both (Nat.beq t t') (f x y) | _ => false)
  | .agg l => (match u with | .agg m => eqLs f l m | _ => false)
  | .tup l => (match u with | .tup m => eqLs f l m | _ => false)
  | _ => false
theorem eqStep_spec {f : AV → AV → Bool} (hf : ∀ x y, f x y = true → x = y) {v u : AV} (h : eqStep f v u = true) : v = u := by
  unfold eqStep at h
  split at h <;> (try split at h) <;> (try simp only [both_eq, decide_eq_true_eq] at h) <;> (try (cases h; done)) <;> (try rfl)
  · rw [eqB_spec h]
  · rw [h.1, eqI_spec h.2]
  · rw [eqN_spec] at h; rw [of_decide_eq_true h]
  · rw [Nat.eq_of_beq_eq_true h.1, Nat.eq_of_beq_eq_true h.2]
  · rw [Nat.eq_of_beq_eq_true h.1, Nat.eq_of_beq_eq_true h.2.1, Nat.eq_of_beq_eq_true h.2.2.1, Nat.eq_of_beq_eq_true h.2.2.2.1, eqB_spec h.2.2.2.2]
  · rw [Nat.eq_of_beq_eq_true h]
  · rw [Nat.eq_of_beq_eq_true h.1, eqLs_spec hf h.2.1, eqLs_spec hf h.2.2]
  · rw [Nat.eq_of_beq_eq_true h.1, hf _ _ h.2]
  · rw [eqLs_spec hf h]
  · rw [eqLs_spec hf h]
def eqA (v u : AV) : Bool := Nat.rec (fun _ _ => false) (fun _ f => eqStep f) 6 v u
theorem eqA_spec {v u : AV} (h : eqA v u = true) : v = u := by
  have key : ∀ n v u, (Nat.rec (fun _ _ => false) (fun _ f => eqStep f) n v u : Bool) = true → v = u := by
    intro n
    induction n with
    | zero => intro v u h; cases h
    | succ n ih => intro v u h; exact eqStep_spec ih h
  exact key 6 v u h

/-! ### a plan for a statement -/
def cls {P : Program} (T : Tabs P) (op : Op) : Nat := match op with
  | .move _ => 0
  | .assign _ => 0
  | .pick .. => 0
  | .nilCheck _ => 0
  | .sliceToArrayPointer .. => 0
  | .fieldAddr .. => 0
  | .field .. => 0
  | .indexAddr .. => 0
  | .index .. => 0
  | .binOp .. => 0
  | .unOp .. => 0
  | .makeInterface .. => 0
  | .makeFunc .. => 0
  | .slice .. => 0
  | .build .. => 0
  | .typeAssert .. => 0
  | .extract .. => 0
  | .load .. => 1
  | .lookup .. => 1
  | .entry _ => 1
  | .convert _ td _ => Option.rec 2 (fun r => match r with
    | ⟨.sl _, _, _⟩ => 2
    | _ => 1) (T.T td)
  | .call ⟨.builtin .len, _, _⟩ => 1
  | .call ⟨.builtin .min, _, _⟩ => 0
  | .call ⟨.builtin .max, _, _⟩ => 0
  | _ => 2
def clsAt {P : Program} (T : Tabs P) (ops : List Oper) (i : Nat) : Nat := Option.rec 2 (fun o => Oper.rec (fun _ op _ _ _ _ => cls T op) o) (nth ops i)
/-- The first of these that may be taken. -/
def pick1 {P : Program} (T : Tabs P) (ops : List Oper) (done : Array Bool) (l : List Nat) : Option (Nat × Nat) := List.rec none (fun i _ ih => Nat.rec (Bool.rec ih (some (i, 0)) (Region.free .any ops.toArray done i)) (fun m _ => Nat.rec (Bool.rec ih (some (i, 1)) (Region.free .any ops.toArray done i)) (fun _ _ => ih) m) (clsAt T ops i)) l
def notAnc (ops : List Oper) (i : Nat) (held : List Nat) : List Nat := List.rec [] (fun h _ ih => Bool.rec (h :: ih) ih (anc ops.toArray ops.toArray.size i h)) held
def planF {P : Program} (T : Tabs P) (ops : List Oper) (n : Nat) : Array Bool → List Nat → Pl := Nat.rec (fun _ _ => .fin) (fun _ ih done held => Option.rec
    (List.rec Pl.fin (fun i l _ => List.rec Pl.stop (fun i _ acc => Pl.alt i (notAnc ops i held) (ih (done.setIfInBounds i true) held) acc) (i :: l)) (readyL ops done))
    (fun p => Prod.rec (fun i c => Nat.rec (Pl.take i (ih (done.setIfInBounds i true) held)) (fun _ _ => Pl.hold i (ih (done.setIfInBounds i true) (i :: held))) c) p)
    (pick1 T ops done (readyL ops done))) n
def planOf {P : Program} (T : Tabs P) (ops : List Oper) : Pl := planF T ops ops.length (Array.replicate ops.length false) []
end
end Go.Ev
