/- The evaluator, part Va: plans, reckoned and checked with masks (numbers whose bits stand for operations and slots). -/
import Derived.Test.YtppdclebbcmcaaaEvV
set_option linter.unusedSimpArgs false
set_option linter.unusedVariables false
namespace Go.Ev
open Go.Sl
noncomputable section
variable {P : Program}
def forceX {X : Type} (n : Nat) (k : Nat → X) : X := Nat.rec (k 0) (fun m _ => k (Nat.succ m)) n
theorem forceX_eq {X : Type} (n : Nat) (k : Nat → X) : forceX n k = k n := by cases n <;> rfl

/-! ### bits -/
def bitQ (m i : Nat) : Bool := Nat.beq (Nat.land (Nat.shiftRight m i) 1) 1
theorem bitQ_eq (m i : Nat) : bitQ m i = m.testBit i := by
  have h : Nat.land (Nat.shiftRight m i) 1 = (m >>> i) % 2 := Nat.and_one_is_mod _
  have h2 : m.testBit i = decide ((m >>> i) % 2 = 1) := by
    rw [Nat.testBit_eq_decide_div_mod_eq, Nat.shiftRight_eq_div_pow]
  unfold bitQ
  rw [h, h2]
  have : (m >>> i) % 2 = 0 ∨ (m >>> i) % 2 = 1 := by omega
  rcases this with e | e <;> rw [e] <;> rfl
theorem bit_pow (i j : Nat) : (Nat.pow 2 i).testBit j = decide (i = j) := by
  show (2 ^ i).testBit j = _
  rw [Nat.testBit_two_pow]
theorem lor_bit (a b i : Nat) : (Nat.lor a b).testBit i = (a.testBit i || b.testBit i) := Nat.testBit_or a b i
/-- The bits of a are among those of m. -/
def subM (a m : Nat) : Bool := Nat.beq (Nat.land a m) a
theorem subM_eq {a m : Nat} : subM a m = true ↔ ∀ i, a.testBit i = true → m.testBit i = true := by
  constructor
  · intro h i hi
    have e : a &&& m = a := Nat.eq_of_beq_eq_true h
    rw [← e, Nat.testBit_and] at hi
    simp only [Bool.and_eq_true] at hi
    exact hi.2
  · intro h
    have e : a &&& m = a := Nat.eq_of_testBit_eq fun i => by
      rw [Nat.testBit_and]
      cases q : a.testBit i with
      | false => rfl
      | true => rw [h i q]; rfl
    show Nat.beq (a &&& m) a = true
    rw [e]; exact Nat.beq_refl a
def disM (a m : Nat) : Bool := Nat.beq (Nat.land a m) 0
theorem disM_spec {a m : Nat} (h : disM a m = true) (i : Nat) : ¬ (a.testBit i = true ∧ m.testBit i = true) := by
  have e : a &&& m = 0 := Nat.eq_of_beq_eq_true h
  rintro ⟨h1, h2⟩
  have : (a &&& m).testBit i = true := by rw [Nat.testBit_and, h1, h2]; rfl
  rw [e] at this
  simp at this

/-! ### marks of operations -/
def mA (l : List Edge) : Nat := List.rec 0 (fun e _ ih => Bool.rec ih (Nat.lor (Nat.pow 2 (Edge.rec (fun n _ => n) e)) ih) (Region.binds .any e)) l
theorem edge_on (e : Edge) : (Edge.rec (fun n _ => n) e : Nat) = e.on := by cases e; rfl
theorem mA_cons (e : Edge) (l : List Edge) : mA (e :: l) = (Bool.rec (mA l) (Nat.lor (Nat.pow 2 (Edge.rec (fun n _ => n) e)) (mA l)) (Region.binds .any e) : Nat) := rfl
theorem mA_bit {i : Nat} : ∀ {l : List Edge}, (mA l).testBit i = true ↔ ∃ e ∈ l, Region.binds .any e = true ∧ e.on = i
  | [] => by simp [mA]
  | e :: l => by
    rw [mA_cons, edge_on]
    cases hb : Region.binds .any e with
    | false =>
      show (mA l).testBit i = true ↔ _
      rw [mA_bit]
      constructor
      · rintro ⟨x, h1, h2⟩; exact ⟨x, List.mem_cons_of_mem _ h1, h2⟩
      · rintro ⟨x, h1, h2⟩
        rcases List.mem_cons.1 h1 with rfl | h1
        · rw [hb] at h2; cases h2.1
        · exact ⟨x, h1, h2⟩
    | true =>
      show (Nat.lor (Nat.pow 2 e.on) (mA l)).testBit i = true ↔ _
      rw [lor_bit, bit_pow, Bool.or_eq_true, mA_bit, decide_eq_true_eq]
      constructor
      · rintro (h | ⟨x, h1, h2⟩)
        · exact ⟨e, List.mem_cons_self, hb, h⟩
        · exact ⟨x, List.mem_cons_of_mem _ h1, h2⟩
      · rintro ⟨x, h1, h2⟩
        rcases List.mem_cons.1 h1 with rfl | h1
        · exact .inl h2.2
        · exact .inr ⟨x, h1, h2⟩
def mT (l : List Nat) : Nat := List.rec 0 (fun t _ ih => Nat.lor (Nat.pow 2 t) ih) l
theorem mT_bit {i : Nat} : ∀ {l : List Nat}, (mT l).testBit i = true ↔ i ∈ l
  | [] => by simp [mT]
  | t :: l => by
    show (Nat.lor (Nat.pow 2 t) (mT l)).testBit i = true ↔ _
    rw [lor_bit, bit_pow, Bool.or_eq_true, mT_bit, decide_eq_true_eq, List.mem_cons]
    constructor
    · rintro (h | h)
      · exact .inl h.symm
      · exact .inr h
    · rintro (h | h)
      · exact .inl h.symm
      · exact .inr h
def dM (d : Option Tmp) : Nat := Option.rec 0 (fun t => Nat.pow 2 t) d
theorem dM_bit {d : Option Tmp} {i : Nat} : (dM d).testBit i = true ↔ d = some i := by
  cases d with
  | none => simp [dM]
  | some t => show (Nat.pow 2 t).testBit i = true ↔ _; rw [bit_pow]; simp
/-- Its number; what it waits for; what it comes behind by whatever steps; what it looks at; what it writes; its class. -/
inductive OE where
  | mk (i A G R D c : Nat)
def OE.i (e : OE) : Nat := OE.rec (fun i _ _ _ _ _ => i) e
def OE.A (e : OE) : Nat := OE.rec (fun _ A _ _ _ _ => A) e
def OE.G (e : OE) : Nat := OE.rec (fun _ _ G _ _ _ => G) e
def OE.R (e : OE) : Nat := OE.rec (fun _ _ _ R _ _ => R) e
def OE.D (e : OE) : Nat := OE.rec (fun _ _ _ _ D _ => D) e
def findG (acc : List OE) (j : Nat) : Nat := List.rec 0 (fun e _ ih => OE.rec (fun i _ G _ _ _ => Bool.rec ih G (Nat.beq i j)) e) acc
def mG (acc : List OE) (l : List Edge) : Nat := List.rec 0 (fun e _ ih => Bool.rec ih (Nat.lor (Nat.lor (Nat.pow 2 (Edge.rec (fun n _ => n) e)) (findG acc (Edge.rec (fun n _ => n) e))) ih) (Region.binds .any e)) l
structure OEok (ops : List Oper) (e : OE) : Prop where
  op : ∃ o, ops[e.i]? = some o ∧ e.A = mA o.after.toList ∧ e.R = mT (o.looksAt ops.toArray) ∧ e.D = dM o.dst
  anc : ∀ h, e.G.testBit h = true → anc ops.toArray (e.i + 1) e.i h = true
theorem anc_mono {ops : Array Oper} : ∀ {n m j i : Nat}, anc ops n j i = true → n ≤ m → anc ops m j i = true
  | 0, m, j, i, h, _ => by simp [anc] at h
  | n + 1, 0, j, i, h, hle => by omega
  | n + 1, m + 1, j, i, h, hle => by
    unfold anc at h ⊢
    cases ho : ops[j]? with
    | none => rw [ho] at h; cases h
    | some o =>
      rw [ho] at h
      simp only [List.any_eq_true, Bool.and_eq_true, Bool.or_eq_true] at h ⊢
      obtain ⟨e, he, hb, h⟩ := h
      refine ⟨e, he, hb, ?_⟩
      rcases h with h | h
      · exact .inl h
      · exact .inr (anc_mono h (by omega))
theorem findG_spec {ops : List Oper} {j h : Nat} : ∀ {acc : List OE}, (∀ e ∈ acc, OEok ops e) → (findG acc j).testBit h = true → ∃ e ∈ acc, e.i = j ∧ e.G.testBit h = true
  | [], _, hh => by simp [findG] at hh
  | e :: acc, ok, hh => by
    obtain ⟨i, A, G, R, D, c⟩ := e
    have hh : (Bool.rec (findG acc j) G (Nat.beq i j) : Nat).testBit h = true := hh
    cases q : Nat.beq i j with
    | true => rw [q] at hh; exact ⟨_, List.mem_cons_self, Nat.eq_of_beq_eq_true q, hh⟩
    | false =>
      rw [q] at hh
      obtain ⟨e, h1, h2⟩ := findG_spec (fun e he => ok e (List.mem_cons_of_mem _ he)) hh
      exact ⟨e, List.mem_cons_of_mem _ h1, h2⟩
theorem mG_spec {ops : List Oper} {acc : List OE} (ok : ∀ e ∈ acc, OEok ops e) {h : Nat} : ∀ {l : List Edge}, (mG acc l).testBit h = true → ∃ e ∈ l, Region.binds .any e = true ∧ (e.on = h ∨ ∃ x ∈ acc, x.i = e.on ∧ x.G.testBit h = true)
  | [], hh => by simp [mG] at hh
  | e :: l, hh => by
    have hh : (Bool.rec (mG acc l) (Nat.lor (Nat.lor (Nat.pow 2 (Edge.rec (fun n _ => n) e)) (findG acc (Edge.rec (fun n _ => n) e))) (mG acc l)) (Region.binds .any e) : Nat).testBit h = true := hh
    rw [edge_on] at hh
    cases hb : Region.binds .any e with
    | false =>
      rw [hb] at hh
      obtain ⟨x, h1, h2⟩ := mG_spec ok hh
      exact ⟨x, List.mem_cons_of_mem _ h1, h2⟩
    | true =>
      rw [hb] at hh
      have hh : (Nat.lor (Nat.lor (Nat.pow 2 e.on) (findG acc e.on)) (mG acc l)).testBit h = true := hh
      rw [lor_bit, lor_bit, bit_pow, Bool.or_eq_true, Bool.or_eq_true, decide_eq_true_eq] at hh
      rcases hh with (hh | hh) | hh
      · exact ⟨e, List.mem_cons_self, hb, .inl hh⟩
      · exact ⟨e, List.mem_cons_self, hb, .inr (findG_spec ok hh)⟩
      · obtain ⟨x, h1, h2⟩ := mG_spec ok hh
        exact ⟨x, List.mem_cons_of_mem _ h1, h2⟩
def prepX {X : Type} (T : Tabs P) (all : List Oper) (rest : List Oper) : Nat → List OE → (List OE → X) → X := List.rec (fun _ _ k => k []) (fun o _ ih i acc k => Oper.rec (fun d op _ _ af _ =>
  forceX (mA af.toList) fun A => forceX (mG acc af.toList) fun G => forceX (mT (Oper.looksAt all.toArray o)) fun R => forceX (dM d) fun D => forceX (cls T op) fun c => forceX (Nat.succ i) fun i' =>
    ih i' (.mk i A G R D c :: acc) fun es => k (.mk i A G R D c :: es)) o) rest
theorem prepX_spec {T : Tabs P} {all : List Oper} : ∀ {rest pre : List Oper} {acc : List OE} {k : List OE → Bool}, prepX T all rest pre.length acc k = true → all = pre ++ rest → (∀ e ∈ acc, OEok all e ∧ e.i < pre.length) →
    ∃ es, k es = true ∧ (∀ e ∈ es, OEok all e) ∧ es.length = rest.length ∧ ∀ j e, es[j]? = some e → e.i = pre.length + j
  | [], pre, acc, k, h, ha, ok => ⟨[], h, by simp, rfl, by simp⟩
  | ⟨d, op, ty, pos, af, g⟩ :: rest, pre, acc, k, h, ha, ok => by
    have h : (forceX (mA af.toList) fun A => forceX (mG acc af.toList) fun G => forceX (mT (Oper.looksAt all.toArray ⟨d, op, ty, pos, af, g⟩)) fun R => forceX (dM d) fun D => forceX (cls T op) fun c => forceX (Nat.succ pre.length) fun i' =>
      prepX T all rest i' (.mk pre.length A G R D c :: acc) fun es => k (.mk pre.length A G R D c :: es)) = true := h
    simp only [forceX_eq] at h
    have hget : all[pre.length]? = some ⟨d, op, ty, pos, af, g⟩ := by rw [ha]; simp
    have hlt : pre.length < all.length := by rw [ha]; simp
    have hok : OEok all (.mk pre.length (mA af.toList) (mG acc af.toList) (mT (Oper.looksAt all.toArray ⟨d, op, ty, pos, af, g⟩)) (dM d) (cls T op)) := by
      refine ⟨⟨_, hget, rfl, rfl, rfl⟩, fun x hx => ?_⟩
      obtain ⟨e, h1, h2, h3⟩ := mG_spec (fun e he => (ok e he).1) (show (mG acc af.toList).testBit x = true from hx)
      show anc all.toArray (pre.length + 1) pre.length x = true
      unfold anc
      rw [show all.toArray[pre.length]? = some ⟨d, op, ty, pos, af, g⟩ by simpa using hget]
      simp only [List.any_eq_true, Bool.and_eq_true, Bool.or_eq_true]
      refine ⟨e, h1, h2, ?_⟩
      rcases h3 with h3 | ⟨y, y1, y2, y3⟩
      · left; rw [h3]; exact Nat.beq_refl x
      · right
        have := (ok y y1).1.anc x y3
        rw [y2] at this
        exact anc_mono this (by have := (ok y y1).2; omega)
    obtain ⟨es, h1, h2, h3, h4⟩ := prepX_spec (pre := pre ++ [⟨d, op, ty, pos, af, g⟩]) (by simpa using h) (by rw [ha]; simp) (fun e he => by
      rcases List.mem_cons.1 he with rfl | he
      · exact ⟨hok, by show pre.length < _; simp⟩
      · have := ok e he; exact ⟨this.1, by simp; omega⟩)
    refine ⟨_, h1, fun e he => ?_, by simp [h3], fun j e hj => ?_⟩
    · rcases List.mem_cons.1 he with rfl | he
      · exact hok
      · exact h2 e he
    · cases j with
      | zero => simp at hj; subst hj; rfl
      | succ j =>
        have := h4 j e (by simpa using hj)
        rw [this]; simp; omega

/-! ### what may come up -/
def readyM (es : List OE) (m : Nat) : List OE := List.rec [] (fun e _ ih => OE.rec (fun i A G R D c => Bool.rec (Bool.rec ih (.mk i A G R D c :: ih) (subM A m)) ih (bitQ m i)) e) es
theorem readyM_mem {m : Nat} {e : OE} : ∀ {es : List OE}, e ∈ readyM es m ↔ e ∈ es ∧ m.testBit e.i = false ∧ subM e.A m = true
  | [] => by simp [readyM]
  | ⟨i, A, G, R, D, c⟩ :: es => by
    show e ∈ (Bool.rec (Bool.rec (readyM es m) (.mk i A G R D c :: readyM es m) (subM A m)) (readyM es m) (bitQ m i) : List OE) ↔ _
    rw [bitQ_eq]
    cases q : m.testBit i with
    | true =>
      show e ∈ readyM es m ↔ _
      rw [readyM_mem, List.mem_cons]
      constructor
      · rintro ⟨h1, h2⟩; exact ⟨.inr h1, h2⟩
      · rintro ⟨h1 | h1, h2, h3⟩
        · subst h1; rw [show OE.i _ = i from rfl, q] at h2; cases h2
        · exact ⟨h1, h2, h3⟩
    | false =>
      show e ∈ (Bool.rec (readyM es m) (.mk i A G R D c :: readyM es m) (subM A m) : List OE) ↔ _
      cases q' : subM A m with
      | true =>
        show e ∈ _ :: readyM es m ↔ _
        rw [List.mem_cons, List.mem_cons, readyM_mem]
        constructor
        · rintro (h1 | ⟨h1, h2⟩)
          · subst h1; exact ⟨.inl rfl, q, q'⟩
          · exact ⟨.inr h1, h2⟩
        · rintro ⟨h1 | h1, h2⟩
          · exact .inl h1
          · exact .inr ⟨h1, h2⟩
      | false =>
        show e ∈ readyM es m ↔ _
        rw [readyM_mem, List.mem_cons]
        constructor
        · rintro ⟨h1, h2⟩; exact ⟨.inr h1, h2⟩
        · rintro ⟨h1 | h1, h2, h3⟩
          · subst h1; rw [show OE.A _ = A from rfl, q'] at h3; cases h3
          · exact ⟨h1, h2, h3⟩
/-- The marks fit the operations. -/
structure EsOk (ops : List Oper) (es : List OE) : Prop where
  ok : ∀ e ∈ es, OEok ops e
  len : es.length = ops.length
  at' : ∀ (j : Nat) (e : OE), es[j]? = some e → e.i = j
theorem EsOk.get {ops : List Oper} {es : List OE} (h : EsOk ops es) {j : Nat} (hj : j < ops.length) : ∃ e, es[j]? = some e ∧ e ∈ es ∧ e.i = j := by
  have : j < es.length := by rw [h.len]; exact hj
  exact ⟨es[j], by simp [this], List.getElem_mem this, h.at' j _ (by simp [this])⟩
def DoneM (ops : List Oper) (done : Array Bool) (m : Nat) : Prop := done.size = ops.length ∧ (∀ i, i < ops.length → done[i]? = some (m.testBit i)) ∧ ∀ i, ops.length ≤ i → m.testBit i = false
theorem DoneM.getF {ops : List Oper} {done : Array Bool} {m : Nat} (h : DoneM ops done m) (i : Nat) : done.getD i false = m.testBit i := by
  by_cases hi : i < ops.length
  · simp [Array.getD_eq_getD_getElem?, h.2.1 i hi]
  · rw [h.2.2 i (by omega)]
    have : done[i]? = none := by simp [h.1]; omega
    simp [Array.getD_eq_getD_getElem?, this]
theorem DoneM.getT {ops : List Oper} {done : Array Bool} {m : Nat} (h : DoneM ops done m) {i : Nat} (hi : i < ops.length) : done.getD i true = m.testBit i := by
  simp [Array.getD_eq_getD_getElem?, h.2.1 i hi]
theorem DoneM.set {ops : List Oper} {done : Array Bool} {m : Nat} (h : DoneM ops done m) {i : Nat} (hi : i < ops.length) : DoneM ops (done.setIfInBounds i true) (Nat.lor m (Nat.pow 2 i)) := by
  refine ⟨by simp [h.1], fun j hj => ?_, fun j hj => ?_⟩
  · rw [lor_bit, bit_pow, Array.getElem?_setIfInBounds]
    by_cases e : i = j
    · subst e; simp [h.1, hi]
    · rw [if_neg e, h.2.1 j hj]; simp [e]
  · rw [lor_bit, bit_pow, h.2.2 j hj]; simp; omega
theorem ready_iff {ops : List Oper} {es : List OE} {done : Array Bool} {m : Nat} (hes : EsOk ops es) (hd : DoneM ops done m) {i : Nat} : i ∈ readyL ops done ↔ ∃ e ∈ readyM es m, e.i = i := by
  unfold readyL
  rw [mem_ready]
  constructor
  · rintro ⟨h1, o, h2, h3⟩
    have hi : i < ops.length := by
      have := (Array.getElem?_eq_some_iff.1 h2).1
      simpa using this
    obtain ⟨e, _, he, rfl⟩ := hes.get hi
    refine ⟨e, readyM_mem.2 ⟨he, ?_, ?_⟩, rfl⟩
    · rw [← hd.getT hi]; exact h1
    · obtain ⟨o', ho', hA, _⟩ := (hes.ok e he).op
      have : o' = o := by
        have h2' : ops[e.i]? = some o := by simpa using h2
        rw [h2'] at ho'; exact (Option.some.inj ho').symm
      subst this
      rw [subM_eq, hA]
      intro j hj
      obtain ⟨x, hx, hb, rfl⟩ := mA_bit.1 hj
      rw [← hd.getF]; exact h3 x (by simpa using hx) hb
  · rintro ⟨e, he, rfl⟩
    obtain ⟨h1, h2, h3⟩ := readyM_mem.1 he
    obtain ⟨o, ho, hA, _⟩ := (hes.ok e h1).op
    have hi := (List.getElem?_eq_some_iff.1 ho).1
    refine ⟨by rw [hd.getT hi]; exact h2, o, by simpa using ho, fun x hx hb => ?_⟩
    rw [hd.getF]
    rw [subM_eq, hA] at h3
    exact h3 x.on (mA_bit.2 ⟨x, by simpa using hx, hb, rfl⟩)

/-! ### each slot is written once, and read behind that -/
def pairOk (e f : OE) : Bool := OE.rec (fun i _ _ R D _ => OE.rec (fun _ A _ R' D' _ => both (disM D' (Nat.lor D R)) (Bool.rec (bitQ A i) true (disM R' D))) f) e
def ssaOk (es : List OE) : Bool := List.rec true (fun e t ih => both (allL (pairOk e) t) ih) es
theorem ssaOk_pair : ∀ {es : List OE}, ssaOk es = true → es.Pairwise fun e f => pairOk e f = true
  | [], _ => .nil
  | e :: es, h => by
    obtain ⟨h1, h2⟩ := both_eq.1 (show both (allL (pairOk e) es) (ssaOk es) = true from h)
    exact .cons (fun f hf => allL_spec h1 f hf) (ssaOk_pair h2)
theorem pairOk_spec {e f : OE} (h : pairOk e f = true) : (∀ d, f.D.testBit d = true → e.D.testBit d = false ∧ e.R.testBit d = false) ∧ (f.A.testBit e.i = true ∨ ∀ d, ¬ (f.R.testBit d = true ∧ e.D.testBit d = true)) := by
  obtain ⟨i, A, G, R, D, c⟩ := e
  obtain ⟨i', A', G', R', D', c'⟩ := f
  obtain ⟨h1, h2⟩ := both_eq.1 (show both (disM D' (Nat.lor D R)) (Bool.rec (bitQ A' i) true (disM R' D)) = true from h)
  refine ⟨fun d hd => ?_, ?_⟩
  · have := disM_spec h1 d
    rw [lor_bit] at this
    have hd : D'.testBit d = true := hd
    rw [hd] at this
    show D.testBit d = false ∧ R.testBit d = false
    cases q : D.testBit d <;> cases q' : R.testBit d <;> simp [q, q'] at this ⊢
  · have h2 : (Bool.rec (bitQ A' i) true (disM R' D) : Bool) = true := h2
    cases q : disM R' D with
    | true => exact .inr fun d => disM_spec q d
    | false => rw [q] at h2; left; rw [← bitQ_eq]; exact h2
theorem free_of_ssa {ops : List Oper} {es : List OE} {done : Array Bool} {m : Nat} (hes : EsOk ops es) (hd : DoneM ops done m) (hs : ssaOk es = true) {e : OE} (he : e ∈ readyM es m) : Region.free .any ops.toArray done e.i = true := by
  obtain ⟨h1, h2, h3⟩ := readyM_mem.1 he
  obtain ⟨o, ho, hA, hR, hD⟩ := (hes.ok e h1).op
  have hi := (List.getElem?_eq_some_iff.1 ho).1
  unfold Region.free
  rw [show ops.toArray[e.i]? = some o by simpa using ho]
  simp only [List.all_eq_true, List.mem_range]
  intro j hj
  have hj : j < ops.length := by simpa using hj
  obtain ⟨f, hf, hfm, hfi⟩ := hes.get hj
  obtain ⟨o', ho', hA', hR', hD'⟩ := (hes.ok f hfm).op
  rw [hfi] at ho'
  rw [show ops.toArray[j]? = some o' by simpa using ho', hd.getT hj]
  simp only [Bool.or_eq_true, beq_iff_eq]
  by_cases hji : j = e.i
  · exact .inl (.inl hji)
  cases hdone : m.testBit j with
  | true => exact .inl (.inr rfl)
  | false =>
    right
    have hee : es[e.i]? = some e := by
      obtain ⟨e', q1, q2, q3⟩ := hes.get hi
      obtain ⟨n, hn, hn'⟩ := List.getElem_of_mem h1
      have : es[n]? = some e := by simp [hn, hn']
      have := hes.at' n e this
      rw [this]; simp [hn, hn']
    have hp := List.pairwise_iff_getElem.1 (ssaOk_pair hs)
    have gl : ∀ {n : Nat} {x : OE}, es[n]? = some x → ∃ h : n < es.length, es[n] = x := fun h => List.getElem?_eq_some_iff.1 h
    obtain ⟨l1, g1⟩ := gl hee
    obtain ⟨l2, g2⟩ := gl hf
    have looks : ∀ {x : Oper} {R d : Nat}, R = mT (x.looksAt ops.toArray) → R.testBit d = false → (x.looksAt ops.toArray).contains d = false := by
      intro x R d hr hb
      cases q : (x.looksAt ops.toArray).contains d with
      | false => rfl
      | true =>
        rw [List.contains_iff_mem] at q
        rw [hr, mT_bit.2 q] at hb; cases hb
    have apart : (∀ d, e.D.testBit d = true → f.R.testBit d = false ∧ f.D.testBit d = false) → (∀ d, f.D.testBit d = true → e.R.testBit d = false) → o.apart ops.toArray o' = true := fun a1 a2 => by
      unfold Oper.apart
      simp only [Bool.and_eq_true]
      constructor
      · cases hdst : o.dst with
        | none => rfl
        | some d =>
          have hb : e.D.testBit d = true := by rw [hD, dM_bit]; exact hdst
          obtain ⟨b1, b2⟩ := a1 d hb
          simp only [Bool.and_eq_true, Bool.not_eq_true', bne_iff_ne, ne_eq]
          refine ⟨looks hR' b1, fun q => ?_⟩
          rw [hD', dM_bit.2 q] at b2; cases b2
      · cases hdst : o'.dst with
        | none => rfl
        | some d =>
          have hb : f.D.testBit d = true := by rw [hD', dM_bit]; exact hdst
          simp only [Bool.not_eq_true']
          exact looks hR (a2 d hb)
    rcases Nat.lt_or_gt_of_ne hji with hlt | hgt
    · -- j ahead of e
      have := hp j e.i l2 l1 hlt
      rw [g1, g2] at this
      obtain ⟨b1, b2⟩ := pairOk_spec this
      rcases b2 with b2 | b2
      · rw [hfi] at b2
        have := (subM_eq.1 h3) j b2
        rw [hdone] at this; cases this
      · right
        refine apart (fun d hd => ⟨(b1 d hd).2, (b1 d hd).1⟩) fun d hd => ?_
        cases q : e.R.testBit d with
        | false => rfl
        | true => exact absurd ⟨q, hd⟩ (b2 d)
    · have := hp e.i j l1 l2 hgt
      rw [g1, g2] at this
      obtain ⟨b1, b2⟩ := pairOk_spec this
      rcases b2 with b2 | b2
      · left
        rw [hA'] at b2
        obtain ⟨x, hx, hb, hxi⟩ := mA_bit.1 b2
        rw [Array.any_eq_true']
        exact ⟨x, by simpa using hx, by simp [hb, hxi]⟩
      · right
        refine apart (fun d hd => ⟨?_, ?_⟩) fun d hd => (b1 d hd).2
        · cases q : f.R.testBit d with
          | false => rfl
          | true => exact absurd ⟨q, hd⟩ (b2 d)
        · cases q : f.D.testBit d with
          | false => rfl
          | true => have := (b1 d q).1; rw [hd] at this; cases this

/-! ### plans -/
def hasOE (l : List OE) (i : Nat) : Bool := List.rec false (fun e _ ih => OE.rec (fun j _ _ _ _ _ => Bool.rec ih true (Nat.beq j i)) e) l
theorem hasOE_spec : ∀ {l : List OE} {i : Nat}, hasOE l i = true → ∃ e ∈ l, e.i = i
  | ⟨j, A, G, R, D, c⟩ :: l, i, h => by
    have h : (Bool.rec (hasOE l i) true (Nat.beq j i) : Bool) = true := h
    cases q : Nat.beq j i with
    | true => exact ⟨_, List.mem_cons_self, Nat.eq_of_beq_eq_true q⟩
    | false =>
      rw [q] at h
      obtain ⟨e, h1, h2⟩ := hasOE_spec h
      exact ⟨e, List.mem_cons_of_mem _ h1, h2⟩
def noOE (l : List OE) : Bool := List.rec true (fun _ _ _ => false) l
def okPlM (es : List OE) (p : Pl) : Nat → Nat → List Nat → List Nat → Bool :=
  Pl.rec (fun _ m _ _ => noOE (readyM es m))
    (fun i _ ih n m held _ => Nat.rec false (fun n _ => both (hasOE (readyM es m) i) (forceN (Nat.lor m (Nat.pow 2 i)) fun m' => ih n m' held [])) n)
    (fun i _ ih n m held _ => Nat.rec false (fun n _ => both (hasOE (readyM es m) i) (forceN (Nat.lor m (Nat.pow 2 i)) fun m' => ih n m' (i :: held) [])) n)
    (fun i chk _ _ ihp ihq n m held seen => Nat.rec false (fun n' _ => both (hasOE (readyM es m) i) (forceN (findG es i) fun G => both (allL (fun h => Bool.rec (bitQ G h) true (hasN chk h)) held) (both (forceN (Nat.lor m (Nat.pow 2 i)) fun m' => ihp n' m' held []) (ihq n m held (i :: seen))))) n)
    (fun n m _ seen => Nat.rec false (fun _ _ => both (notB (noOE (readyM es m))) (allL (fun e => hasN seen e.i) (readyM es m))) n) p
theorem hasN_of {l : List Nat} {i : Nat} (h : i ∈ l) : hasN l i = true := by
  induction l with
  | nil => cases h
  | cons x l ih =>
    show (Bool.rec (hasN l i) true (Nat.beq x i) : Bool) = true
    cases q : Nat.beq x i with
    | true => rfl
    | false =>
      rcases List.mem_cons.1 h with rfl | h
      · simp at q
      · exact ih h
theorem nil_iff {ops : List Oper} {es : List OE} {done : Array Bool} {m : Nat} (hes : EsOk ops es) (hd : DoneM ops done m) : isNilL (readyL ops done) = noOE (readyM es m) := by
  have h := @ready_iff ops es done m hes hd
  cases q : readyL ops done with
  | nil =>
    cases q' : readyM es m with
    | nil => rfl
    | cons e l => have := (h (i := e.i)).2 ⟨e, by rw [q']; exact List.mem_cons_self, rfl⟩; rw [q] at this; cases this
  | cons i l =>
    cases q' : readyM es m with
    | nil => obtain ⟨e, h1, _⟩ := (h (i := i)).1 (by rw [q]; exact List.mem_cons_self); rw [q'] at h1; cases h1
    | cons e l => rfl
theorem allL_of {α : Type} {p : α → Bool} : ∀ {l : List α}, (∀ x ∈ l, p x = true) → allL p l = true
  | [], _ => rfl
  | x :: l, h => both_eq.2 ⟨h x List.mem_cons_self, allL_of fun y hy => h y (List.mem_cons_of_mem _ hy)⟩
theorem okPlM_ok {ops : List Oper} {es : List OE} (hes : EsOk ops es) (hs : ssaOk es = true) : ∀ {p : Pl} {n m : Nat} {done : Array Bool} {held seen : List Nat}, DoneM ops done m → okPlM es p n m held seen = true → okPl ops p n done held seen = true
  | .fin, n, m, done, held, seen, hd, h => by
    show isNilL (readyL ops done) = true
    rw [nil_iff hes hd]; exact h
  | .take i p, 0, m, done, held, seen, hd, h => by cases h
  | .take i p, n + 1, m, done, held, seen, hd, h => by
    obtain ⟨h1, h2⟩ := both_eq.1 (show both (hasOE (readyM es m) i) (forceN (Nat.lor m (Nat.pow 2 i)) fun m' => okPlM es p n m' held []) = true from h)
    rw [forceN_eq] at h2
    obtain ⟨e, he, rfl⟩ := hasOE_spec h1
    have hi : e.i < ops.length := by
      obtain ⟨o, ho, _⟩ := (hes.ok e (readyM_mem.1 he).1).op
      exact (List.getElem?_eq_some_iff.1 ho).1
    show both (hasN (readyL ops done) e.i) (both (Region.free .any ops.toArray done e.i) (okPl ops p n (done.setIfInBounds e.i true) held [])) = true
    exact both_eq.2 ⟨hasN_of ((ready_iff hes hd).2 ⟨e, he, rfl⟩), both_eq.2 ⟨free_of_ssa hes hd hs he, okPlM_ok hes hs (hd.set hi) h2⟩⟩
  | .hold i p, 0, m, done, held, seen, hd, h => by cases h
  | .hold i p, n + 1, m, done, held, seen, hd, h => by
    obtain ⟨h1, h2⟩ := both_eq.1 (show both (hasOE (readyM es m) i) (forceN (Nat.lor m (Nat.pow 2 i)) fun m' => okPlM es p n m' (i :: held) []) = true from h)
    rw [forceN_eq] at h2
    obtain ⟨e, he, rfl⟩ := hasOE_spec h1
    have hi : e.i < ops.length := by
      obtain ⟨o, ho, _⟩ := (hes.ok e (readyM_mem.1 he).1).op
      exact (List.getElem?_eq_some_iff.1 ho).1
    show both (hasN (readyL ops done) e.i) (both (Region.free .any ops.toArray done e.i) (okPl ops p n (done.setIfInBounds e.i true) (e.i :: held) [])) = true
    exact both_eq.2 ⟨hasN_of ((ready_iff hes hd).2 ⟨e, he, rfl⟩), both_eq.2 ⟨free_of_ssa hes hd hs he, okPlM_ok hes hs (hd.set hi) h2⟩⟩
  | .alt i chk p q, 0, m, done, held, seen, hd, h => by cases h
  | .alt i chk p q, n + 1, m, done, held, seen, hd, h => by
    obtain ⟨h1, h2⟩ := both_eq.1 (show both (hasOE (readyM es m) i) (forceN (findG es i) fun G => both (allL (fun h => Bool.rec (bitQ G h) true (hasN chk h)) held) (both (forceN (Nat.lor m (Nat.pow 2 i)) fun m' => okPlM es p n m' held []) (okPlM es q (n + 1) m held (i :: seen)))) = true from h)
    rw [forceN_eq] at h2
    obtain ⟨h2, h3⟩ := both_eq.1 h2
    obtain ⟨h3, h4⟩ := both_eq.1 h3
    rw [forceN_eq] at h3
    obtain ⟨e, he, rfl⟩ := hasOE_spec h1
    have hi : e.i < ops.length := by
      obtain ⟨o, ho, _⟩ := (hes.ok e (readyM_mem.1 he).1).op
      exact (List.getElem?_eq_some_iff.1 ho).1
    show both (hasN (readyL ops done) e.i) (both (allL (fun h => Bool.rec (anc ops.toArray ops.toArray.size e.i h) true (hasN chk h)) held) (both (okPl ops p n (done.setIfInBounds e.i true) held []) (okPl ops q (n + 1) done held (e.i :: seen)))) = true
    refine both_eq.2 ⟨hasN_of ((ready_iff hes hd).2 ⟨e, he, rfl⟩), both_eq.2 ⟨allL_of fun x hx => ?_, both_eq.2 ⟨okPlM_ok hes hs (hd.set hi) h3, okPlM_ok hes hs hd h4⟩⟩⟩
    have hx' : (Bool.rec (bitQ (findG es e.i) x) true (hasN chk x) : Bool) = true := allL_spec h2 x hx
    cases q : hasN chk x with
    | true => rfl
    | false =>
      rw [q] at hx'
      have hx' : bitQ (findG es e.i) x = true := hx'
      rw [bitQ_eq] at hx'
      obtain ⟨f, hf, hfi, hG⟩ := findG_spec hes.ok hx'
      have := (hes.ok f hf).anc x hG
      rw [hfi] at this
      show anc ops.toArray ops.toArray.size e.i x = true
      exact anc_mono this (by simp; omega)
  | .stop, 0, m, done, held, seen, hd, h => by cases h
  | .stop, n + 1, m, done, held, seen, hd, h => by
    obtain ⟨h1, h2⟩ := both_eq.1 (show both (notB (noOE (readyM es m))) (allL (fun e => hasN seen e.i) (readyM es m)) = true from h)
    show both (notB (isNilL (readyL ops done))) (allL (hasN seen) (readyL ops done)) = true
    refine both_eq.2 ⟨by rw [nil_iff hes hd]; exact h1, allL_of fun i hi => ?_⟩
    obtain ⟨e, he, rfl⟩ := (ready_iff hes hd).1 hi
    exact allL_spec h2 e he
def opPlain (op : Op) : Bool := match op with
  | .select _ _ => false
  | .defer _ => false
  | _ => true
def plainL (ops : List Oper) : Bool := List.rec true (fun o _ ih => both (Oper.rec (fun _ op _ _ _ _ => opPlain op) o) ih) ops
theorem plainL_spec : ∀ {ops : List Oper}, plainL ops = true → ∀ o ∈ ops, opPlain o.op = true
  | [], _ => by simp
  | ⟨d, op, ty, pos, af, g⟩ :: ops, h => by
    obtain ⟨h1, h2⟩ := both_eq.1 (show both (opPlain op) (plainL ops) = true from h)
    intro o ho
    rcases List.mem_cons.1 ho with rfl | ho
    · exact h1
    · exact plainL_spec h2 o ho
/-- The first that may be taken. -/
def pickM (l : List OE) {X : Type} (k : Nat → Nat → X) (none : X) : X := List.rec none (fun e _ ih => OE.rec (fun i _ _ _ _ c => Nat.rec (k i 0) (fun m _ => Nat.rec (k i 1) (fun _ _ => ih) m) c) e) l
def chkM (G : Nat) (held : List Nat) : List Nat := List.rec [] (fun h _ ih => Bool.rec (h :: ih) ih (bitQ G h)) held
def planM (es : List OE) (n : Nat) : Nat → List Nat → Pl := Nat.rec (fun _ _ => .fin) (fun _ ih m held => pickM (readyM es m)
    (fun i c => Nat.rec (.take i (forceX (Nat.lor m (Nat.pow 2 i)) fun m' => ih m' held)) (fun _ _ => .hold i (forceX (Nat.lor m (Nat.pow 2 i)) fun m' => ih m' (i :: held))) c)
    (List.rec Pl.fin (fun e l _ => List.rec Pl.stop (fun e _ acc => OE.rec (fun i _ G _ _ _ => Pl.alt i (chkM G held) (forceX (Nat.lor m (Nat.pow 2 i)) fun m' => ih m' held) acc) e) (e :: l)) (readyM es m))) n
def planFast (T : Tabs P) (ops : List Oper) : Pl := prepX T ops ops 0 [] fun es => planM es ops.length 0 []
def okFast (T : Tabs P) (ops : List Oper) : Bool := prepX T ops ops 0 [] fun es => both (plainL ops) (both (ssaOk es) (okPlM es (planFast T ops) ops.length 0 [] []))
theorem okFast_spec {T : Tabs P} {ops : List Oper} (h : okFast T ops = true) : okPlan ops (planFast T ops) = true := by
  obtain ⟨es, h1, h2, h3, h4⟩ := prepX_spec (pre := []) (all := ops) (rest := ops) (acc := []) h rfl (by simp)
  obtain ⟨h5, h6⟩ := both_eq.1 h1
  obtain ⟨h6, h7⟩ := both_eq.1 h6
  have hes : EsOk ops es := ⟨h2, h3, fun j e hj => by have := h4 j e hj; simpa using this⟩
  have hd : DoneM ops (Array.replicate ops.length false) 0 := ⟨by simp, fun i hi => by simp [hi], fun i _ => by simp⟩
  have hp := plainL_spec h5
  refine both_eq.2 ⟨?_, both_eq.2 ⟨?_, okPlM_ok hes h6 hd h7⟩⟩
  · unfold Region.noSelect
    rw [Array.all_eq_true']
    intro o ho
    have := hp o (by simpa using ho)
    cases q : o.op <;> first | rfl | (rw [q] at this; cases this)
  · unfold noDefer
    rw [List.all_eq_true]
    intro o ho
    have := hp o (by simpa using ho)
    cases q : o.op <;> first | rfl | (rw [q] at this; cases this)
/-- A statement's plan. -/
def plan2 (T : Tabs P) (ops : List Oper) : Pl := Bool.rec (planOf T ops) (planFast T ops) (okFast T ops)
def okPlan2 (T : Tabs P) (ops : List Oper) : Bool := Bool.rec (okPlan ops (planOf T ops)) true (okFast T ops)
theorem okPlan2_spec {T : Tabs P} {ops : List Oper} (h : okPlan2 T ops = true) : okPlan ops (plan2 T ops) = true := by
  unfold okPlan2 at h
  unfold plan2
  cases q : okFast T ops with
  | true => exact okFast_spec q
  | false => rw [q] at h; exact h
end
end Go.Ev
