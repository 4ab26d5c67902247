/- The evaluator, part F: arithmetic, comparisons, conversions, cuts, maps that are read. -/
import Derived.Test.YtppdclebbcmcaaaEvFa
set_option linter.unusedSimpArgs false
set_option linter.unusedVariables false
namespace Go.Ev
open Go.Sl
noncomputable section
variable {P : Program} {T : Tabs P} {c : Cn} {ρ : Env} {fr : Tr AV} {ds : List AD} {M : Mem} {nx : Nat} {a : Act} {w : World}

/-- What the model's own word says of plain values. -/
def semK (P : Program) (s : Sem Value) (k : AV → Bool) : Bool := Option.rec false (fun v => constK v k) (prun P s)
theorem semK_spec {s : Sem Value} {k : AV → Bool} (h : semK P s k = true) (ρ : Env) : ∃ x v, ren ρ x = some v ∧ k x = true ∧ ∀ w, s.run P w = .ok v w := by
  obtain ⟨v, h1, h2⟩ := opt_rec h
  obtain ⟨x, h3, h4⟩ := constK_spec h2 ρ
  exact ⟨x, v, h3, h4, prun_run h1⟩

/-! ### numbers, bools -/
def unK (P : Program) (T : Tabs P) (fr : Tr AV) (op : UnOp) (x : Operand) (k : AV → Bool) : Bool := argK T fr x fun v => match v with
  | .int kd n => semK P (Op.unary op (.int kd n)) k
  | .bool b => semK P (Op.unary op (.bool b)) k
  | _ => false
theorem unK_spec {op : UnOp} {tx : TypeId} {x : Operand} {k : AV → Bool} (h : unK P T fr op x k = true) (s : Rel T c ρ fr ds M nx a w) : Yes P ρ a (fun _ => True) (.unOp op tx x) k := by
  obtain ⟨v, r, h1, h2⟩ := argK_spec h s
  split at h2
  · rename_i kd n
    obtain rfl : r = .int kd n := by simpa [ren] using h1.ren.symm
    obtain ⟨x', v, h3, h4, h5⟩ := semK_spec h2 ρ
    exact ⟨x', v, h3, h4, fun _ _ _ => fun a w d pos af g st => by simp [execOp, st.eval (h1.ev _ _ _), h5]⟩
  · rename_i b
    obtain rfl : r = .bool b := by simpa [ren] using h1.ren.symm
    obtain ⟨x', v, h3, h4, h5⟩ := semK_spec h2 ρ
    exact ⟨x', v, h3, h4, fun _ _ _ => fun a w d pos af g st => by simp [execOp, st.eval (h1.ev _ _ _), h5]⟩
  · cases h2

/-! ### texts -/
def eqN (l : List Nat) : List Nat → Bool := List.rec (fun m => List.rec true (fun _ _ _ => false) m) (fun x _ ih m => List.rec false (fun y t _ => both (Nat.beq x y) (ih t)) m) l
theorem eqN_spec : ∀ l m : List Nat, eqN l m = decide (l = m)
  | [], [] => rfl
  | [], _ :: _ => rfl
  | _ :: _, [] => rfl
  | x :: l, y :: m => by
    show both (Nat.beq x y) (eqN l m) = _
    rw [eqN_spec l m]
    by_cases h : x = y
    · subst h
      have : Nat.beq x x = true := by simp
      rw [this]; simp [both]
    · have : Nat.beq x y = false := Bool.eq_false_iff.2 fun q => h (Nat.eq_of_beq_eq_true q)
      rw [this]; simp [both, h]
def ltN (l : List Nat) : List Nat → Bool := List.rec (fun m => List.rec false (fun _ _ _ => true) m) (fun x _ ih m => List.rec false (fun y t _ => Bool.rec (both (Nat.beq x y) (ih t)) true (Nat.blt x y)) m) l
theorem small_cons {x : Nat} {l : List Nat} (h : small (x :: l) = true) : x < 256 ∧ small l = true := by
  unfold small at *
  simp only [List.all_cons, Bool.and_eq_true, Nat.blt_eq] at h
  exact h
theorem u8_inj {x y : Nat} (hx : x < 256) (hy : y < 256) : (UInt8.ofNat x = UInt8.ofNat y) ↔ x = y := by
  constructor
  · intro h; have := congrArg UInt8.toNat h; rwa [u8_ofNat hx, u8_ofNat hy] at this
  · intro h; rw [h]
theorem map_inj : ∀ {l m : List Nat}, small l = true → small m = true → (l.map UInt8.ofNat = m.map UInt8.ofNat ↔ l = m)
  | [], [], _, _ => by simp
  | [], _ :: _, _, _ => by simp
  | _ :: _, [], _, _ => by simp
  | x :: l, y :: m, h, h' => by
    obtain ⟨h1, h2⟩ := small_cons h
    obtain ⟨h3, h4⟩ := small_cons h'
    simp only [List.map_cons, List.cons.injEq, u8_inj h1 h3, map_inj h2 h4]
theorem ltN_spec : ∀ {l m : List Nat}, small l = true → small m = true → Op.bytesLess (l.map UInt8.ofNat) (m.map UInt8.ofNat) = ltN l m
  | [], [], _, _ => rfl
  | [], _ :: _, _, _ => rfl
  | _ :: _, [], _, _ => rfl
  | x :: l, y :: m, h, h' => by
    obtain ⟨h1, h2⟩ := small_cons h
    obtain ⟨h3, h4⟩ := small_cons h'
    simp only [List.map_cons, Op.bytesLess]
    rw [ltN_spec h2 h4]
    show _ = (Bool.rec (both (Nat.beq x y) (ltN l m)) true (Nat.blt x y) : Bool)
    have e1 : decide (UInt8.ofNat x < UInt8.ofNat y) = Nat.blt x y := by
      rw [Bool.eq_iff_iff, decide_eq_true_iff, UInt8.lt_iff_toNat_lt, u8_ofNat h1, u8_ofNat h3, Nat.blt_eq]
    have e2 : (UInt8.ofNat x == UInt8.ofNat y) = Nat.beq x y := by
      rw [Bool.eq_iff_iff, beq_iff_eq, u8_inj h1 h3]
      exact ⟨fun h => by subst h; simp, fun h => Nat.eq_of_beq_eq_true h⟩
    rw [e1, e2]
    cases Nat.blt x y <;> cases Nat.beq x y <;> cases ltN l m <;> rfl
theorem small_append {l m : List Nat} (h : small l = true) (h' : small m = true) : small (l ++ m) = true := by unfold small at *; simp [h, h']
theorem ren_strV {l : List Nat} (h : small l = true) : ren ρ (.str l) = some (strV l) := by unfold ren; rw [if_pos h]
def notB (b : Bool) : Bool := Bool.rec true false b
theorem notB_eq (b : Bool) : notB b = !b := by cases b <;> rfl
def strOpK (op : BinOp) (l m : List Nat) (k : AV → Bool) : Bool := match op with
  | .eql => forceB (eqN l m) fun b => k (.bool b)
  | .neq => forceB (eqN l m) fun b => k (.bool (notB b))
  | .lss => forceB (ltN l m) fun b => k (.bool b)
  | .geq => forceB (ltN l m) fun b => k (.bool (notB b))
  | .gtr => forceB (ltN m l) fun b => k (.bool b)
  | .leq => forceB (ltN m l) fun b => k (.bool (notB b))
  | .add => lenL l 0 fun n => lenL m 0 fun n' => both (Nat.ble (Nat.add n n') 9223372036854775807) (appL l m fun z => k (.str z))
  | _ => false
theorem less_asymm : ∀ l m : List UInt8, Op.bytesLess m l = !(Op.bytesLess l m || l == m)
  | [], [] => rfl
  | [], _ :: _ => rfl
  | _ :: _, [] => rfl
  | x :: l, y :: m => by
    simp only [Op.bytesLess, less_asymm l m]
    rw [Bool.eq_iff_iff]
    simp only [Bool.or_eq_true, decide_eq_true_eq, Bool.and_eq_true, beq_iff_eq, Bool.not_eq_true', Bool.or_eq_false_iff, decide_eq_false_iff_not, Bool.and_eq_false_iff, beq_eq_false_iff_ne, List.cons.injEq, ne_eq, not_and, UInt8.lt_iff_toNat_lt, ← UInt8.toNat_inj]
    constructor
    · rintro (h | ⟨h1, h2, h3⟩)
      · exact ⟨⟨by omega, .inl (by omega)⟩, by omega⟩
      · exact ⟨⟨by omega, .inr h2⟩, fun _ => h3⟩
    · rintro ⟨⟨h1, h2⟩, h3⟩
      by_cases q : y.toNat < x.toNat
      · exact .inl q
      · have : x.toNat = y.toNat := by omega
        exact .inr ⟨this.symm, h2.resolve_left (by omega), h3 this⟩
theorem strOpK_spec {op : BinOp} {l m : List Nat} {k : AV → Bool} {x y : Operand} {tx tz : TypeId} (h : strOpK op l m k = true) (hl : small l = true) (hm : small m = true) :
    ∃ v r, ren ρ v = some r ∧ k v = true ∧ ∀ (cx : Cx) (fe : Fr) (Γ : List HProp) (ty : TypeId), Sl.ev cx fe x = some (strV l) → Sl.ev cx fe y = some (strV m) → Yl P cx fe Γ (.binOp op tx x y tz) ty r := by
  have eq : (l.map UInt8.ofNat == m.map UInt8.ofNat) = eqN l m := by
    rw [eqN_spec, Bool.eq_iff_iff, beq_iff_eq, map_inj hl hm, decide_eq_true_iff]
  unfold strOpK at h
  split at h
  · rw [forceB_eq] at h; exact ⟨_, _, rfl, h, fun cx fe Γ ty hx hy => by rw [← eq]; exact Yl.eql_str hx hy⟩
  · rw [forceB_eq] at h; exact ⟨_, _, rfl, h, fun cx fe Γ ty hx hy => by rw [notB_eq, ← eq]; exact Yl.neq_str hx hy⟩
  · rw [forceB_eq] at h; exact ⟨_, _, rfl, h, fun cx fe Γ ty hx hy => by rw [← ltN_spec hl hm]; exact Yl.lss_str hx hy⟩
  · rw [forceB_eq] at h; exact ⟨_, _, rfl, h, fun cx fe Γ ty hx hy => by rw [notB_eq, ← ltN_spec hl hm]; exact Yl.geq_str hx hy⟩
  · rw [forceB_eq] at h; exact ⟨_, _, rfl, h, fun cx fe Γ ty hx hy => by rw [← ltN_spec hm hl, less_asymm]; exact Yl.gtr_str hx hy⟩
  · rw [forceB_eq] at h; exact ⟨_, _, rfl, h, fun cx fe Γ ty hx hy => by rw [notB_eq, ← ltN_spec hm hl, less_asymm, Bool.not_not]; exact Yl.leq_str hx hy⟩
  · rw [lenL_eq, lenL_eq] at h
    obtain ⟨h1, h⟩ := both_eq.1 h
    rw [appL_eq] at h
    refine ⟨_, _, ren_strV (small_append hl hm), h, fun cx fe Γ ty hx hy => ?_⟩
    have := Yl.cat (P := P) (Γ := Γ) (ty := ty) (tx := tx) (tz := tz) hx hy (by simpa using Nat.le_of_ble_eq_true h1)
    unfold strV; rw [List.map_append]; exact this
  · cases h

/-! ### comparisons with nil, and of plain data -/
/-- This as a plain value: it names no block. -/
def toV (v : AV) : Option Value := ren ⟨[]⟩ v
theorem toV_ren {v : AV} {r : Value} (h : toV v = some r) (ρ : Env) : ren ρ v = some r := ren_ext ⟨ρ.l, by simp⟩ h
/-- Is the value nil? (of a kind that may be) -/
def nilQ : AV → Option Bool
  | .nilp => some true
  | .ptr _ _ => some false
  | .nils => some true
  | .sl _ _ _ _ _ => some false
  | .em _ _ _ _ => some false
  | .nilm => some true
  | .map _ => some false
  | .nilf => some true
  | .fn _ _ _ => some false
  | .yl _ => some false
  | _ => none
def isNil : AV → Bool
  | .nilp => true
  | .nils => true
  | .nilm => true
  | .nilf => true
  | _ => false
theorem eqGuard_none {op : BinOp} {t : TypeId} {x y : Operand} {r q : Value} {w : World} (hr : ∀ u, r ≠ .agg u) (h0 : q ≠ .nilIface) : (eqGuard op t x y r q).run P w = .ok () w := by
  unfold eqGuard
  cases r <;> cases q <;> first | exact absurd rfl h0 | exact absurd rfl (hr _) | (cases op <;> simp)
theorem run_equal_ifaceNil {t u : TypeId} {ms : Array (String × TypeId)} {v : Value} {w : World} (ht : P.underlying t = some (.interface ms)) : (Op.equal t (.iface u v) .nilIface).run P w = .ok false w := by
  have h : ∀ d, (Op.equalIn (d + 1) t (.iface u v) .nilIface).run P w = .ok false w := fun d => by simp [Op.equalIn, run_underlying ht]
  exact h 9999
def nilFits (d : TD) (u v : AV) : Bool := match d, u with
  | .ptr, .nilp => (match v with | .nilp => true | .ptr _ _ => true | _ => false)
  | .sl _, .nils => (match v with | .nils => true | .sl _ _ _ _ _ => true | .em _ _ _ _ => true | _ => false)
  | .map _ _, .nilm => (match v with | .nilm => true | .map _ => true | _ => false)
  | .fn, .nilf => (match v with | .nilf => true | .fn _ _ _ => true | .yl _ => true | _ => false)
  | _, _ => false
theorem nilFits_eq {t : TypeId} {d : TD} {v u : AV} {r q : Value} {b : Bool} (hf : nilFits d u v = true) (ht : TDok P t d) (hv : ren ρ v = some r) (hu : ren ρ u = some q) (hb : nilQ v = some b) : (∀ w, (Op.equal t r q).run P w = .ok b w) ∧ (∀ x, r ≠ .agg x) ∧ q ≠ .nilIface ∧ (∀ k n, r ≠ .int k n) ∧ (∀ s, r ≠ .string s) ∧ (∀ f n, r ≠ .float f n) ∧ (∀ f n m, r ≠ .complex f n m) := by
  cases d with
  | ptr =>
    cases u <;> try (cases hf; done)
    obtain ⟨e, ht⟩ := ht
    cases v <;> try (cases hf; done)
    all_goals
      simp only [ren, Option.some.injEq, Option.map_eq_some_iff] at hv hu
      cases hb; subst hu
    · subst hv; exact ⟨fun w => run_equal_nil_ptr ht, by simp, by simp, by simp, by simp, by simp, by simp⟩
    · obtain ⟨_, _, rfl⟩ := hv; exact ⟨fun w => run_equal_nil_ptr ht, by simp, by simp, by simp, by simp, by simp, by simp⟩
  | sl e =>
    cases u <;> try (cases hf; done)
    cases v <;> try (cases hf; done)
    all_goals
      simp only [ren, Option.some.injEq, Option.map_eq_some_iff] at hv hu
      cases hb; subst hu
    · subst hv; exact ⟨fun w => run_equal_nil_slice ht, by simp, by simp, by simp, by simp, by simp, by simp⟩
    · obtain ⟨_, _, rfl⟩ := hv; exact ⟨fun w => run_equal_nil_slice ht, by simp, by simp, by simp, by simp, by simp, by simp⟩
    · obtain ⟨_, _, rfl⟩ := hv; exact ⟨fun w => run_equal_nil_slice ht, by simp, by simp, by simp, by simp, by simp, by simp⟩
  | map k e =>
    cases u <;> try (cases hf; done)
    cases v <;> try (cases hf; done)
    all_goals
      simp only [ren, Option.some.injEq, Option.map_eq_some_iff] at hv hu
      cases hb; subst hu
    · subst hv; exact ⟨fun w => run_equal_nil_map ht, by simp, by simp, by simp, by simp, by simp, by simp⟩
    · obtain ⟨_, _, rfl⟩ := hv; exact ⟨fun w => run_equal_nil_map ht, by simp, by simp, by simp, by simp, by simp, by simp⟩
  | fn =>
    cases u <;> try (cases hf; done)
    obtain ⟨_, _, _, ht⟩ := ht
    cases v <;> try (cases hf; done)
    all_goals
      simp only [ren, Option.some.injEq, Option.map_eq_some_iff, Option.bind_eq_some_iff] at hv hu
      cases hb; subst hu
    · obtain ⟨_, _, _, _, rfl⟩ := hv; exact ⟨fun w => run_equal_nilFunc ht, by simp, by simp, by simp, by simp, by simp, by simp⟩
    · obtain ⟨_, _, rfl⟩ := hv; exact ⟨fun w => run_equal_nilFunc ht, by simp [yv], by simp, by simp [yv], by simp [yv], by simp [yv], by simp [yv]⟩
    · subst hv; exact ⟨fun w => run_equal_nilFunc2 ht, by simp, by simp, by simp, by simp, by simp, by simp⟩
  | _ => cases hf
def nilK (T : Tabs P) (op : BinOp) (tx : TypeId) (v u : AV) (k : AV → Bool) : Bool := Option.rec false (fun r => both (nilFits r.td u v) (Option.rec false (fun b => match op with | .eql => k (.bool b) | .neq => k (.bool (notB b)) | _ => false) (nilQ v))) (T.T tx)
def plain2 (P : Program) (op : BinOp) (tx : TypeId) (x y : Operand) (v u : AV) (k : AV → Bool) : Bool := Option.rec false (fun r => Option.rec false (fun q => semK P (do eqGuard op tx x y r q; binOp op tx r q) k) (toV u)) (toV v)
def ifaceNilK (T : Tabs P) (op : BinOp) (tx : TypeId) (k : AV → Bool) : Bool := Option.rec false (fun r => match r with
  | ⟨.ifc, _, _⟩ => (match op with | .eql => k (.bool false) | .neq => k (.bool true) | _ => false)
  | _ => false) (T.T tx)
def dfltK (T : Tabs P) (op : BinOp) (tx : TypeId) (x y : Operand) (v u : AV) (k : AV → Bool) : Bool := Bool.rec (plain2 P op tx x y v u k) (nilK T op tx v u k) (isNil u)
def intSlowK (P : Program) (op : BinOp) (tx : TypeId) (k1 : IntKind) (m : Int) (k2 : IntKind) (n : Int) (k : AV → Bool) : Bool := semK P (binOp op tx (.int k1 m) (.int k2 n)) k
def intFK (P : Program) (op : BinOp) (tx : TypeId) (k1 : IntKind) (m : Int) (k2 : IntKind) (n : Int) (k : AV → Bool) : Bool := Int.rec (fun a => Int.rec (fun b => Bool.rec (shK op k1 a b k (intSlowK P op tx k1 m k2 n k)) (intOpK op k1 a b k (shK op k1 a b k (intSlowK P op tx k1 m k2 n k))) (Nat.beq (kindN k1) (kindN k2))) (fun _ => intSlowK P op tx k1 m k2 n k) n) (fun _ => intSlowK P op tx k1 m k2 n k) m
theorem intFK_spec {op : BinOp} {tx : TypeId} {k1 : IntKind} {m : Int} {k2 : IntKind} {n : Int} {k : AV → Bool} (h : intFK P op tx k1 m k2 n k = true) (ρ : Env) : ∃ x v, ren ρ x = some v ∧ k x = true ∧ ∀ w, (binOp op tx (.int k1 m) (.int k2 n)).run P w = .ok v w := by
  have slow : intSlowK P op tx k1 m k2 n k = true → ∃ x v, ren ρ x = some v ∧ k x = true ∧ ∀ w, (binOp op tx (.int k1 m) (.int k2 n)).run P w = .ok v w := fun h => semK_spec h ρ
  have fast : IOk (binOp op tx (.int k1 m) (.int k2 n)) k → ∃ x v, ren ρ x = some v ∧ k x = true ∧ ∀ w, (binOp op tx (.int k1 m) (.int k2 n)).run P w = .ok v w := fun ⟨x, v, h1, h2, h3⟩ => ⟨x, v, h1 ρ, h2, fun w => by rw [h3]; rfl⟩
  cases m with
  | negSucc a => exact slow h
  | ofNat a =>
    cases n with
    | negSucc b => exact slow h
    | ofNat b =>
      have h : (Bool.rec (shK op k1 a b k (intSlowK P op tx k1 (.ofNat a) k2 (.ofNat b) k)) (intOpK op k1 a b k (shK op k1 a b k (intSlowK P op tx k1 (.ofNat a) k2 (.ofNat b) k))) (Nat.beq (kindN k1) (kindN k2)) : Bool) = true := h
      have sh : shK op k1 a b k (intSlowK P op tx k1 (.ofNat a) k2 (.ofNat b) k) = true → ∃ x v, ren ρ x = some v ∧ k x = true ∧ ∀ w, (binOp op tx (.int k1 (.ofNat a)) (.int k2 (.ofNat b))).run P w = .ok v w := fun h => (shK_spec h).elim slow fast
      cases q : Nat.beq (kindN k1) (kindN k2) with
      | false => rw [q] at h; exact sh h
      | true =>
        rw [q] at h
        have hk := kindN_inj q
        subst hk
        exact (intOpK_spec h).elim sh fast
/-- Of two operands, by their kinds. -/
def bin2K (P : Program) (T : Tabs P) (op : BinOp) (tx : TypeId) (x y : Operand) (v u : AV) (k : AV → Bool) : Bool := match v with
  | .int k1 m => (match u with
    | .int k2 n => intFK P op tx k1 m k2 n k
    | _ => false)
  | .str l => (match u with
    | .str m => strOpK op l m k
    | _ => false)
  | .iface t v => (match u with
    | .nili => ifaceNilK T op tx k
    | u => plain2 P op tx x y (.iface t v) u k)
  | .nili => plain2 P op tx x y .nili u k
  | v => dfltK T op tx x y v u k
def binK (P : Program) (T : Tabs P) (fr : Tr AV) (op : BinOp) (tx : TypeId) (x y : Operand) (k : AV → Bool) : Bool := argK T fr x fun v => argK T fr y fun u => bin2K P T op tx x y v u k
theorem run_eq_of {op : BinOp} {t : TypeId} {x y : Operand} {r q : Value} {b : Bool} {w : World} (h : ∀ w, (Op.equal t r q).run P w = .ok b w) (hr : ∀ u, r ≠ .agg u) (h0 : q ≠ .nilIface ∨ ∃ t v, r = .iface t v)
    (h1 : ∀ k n, r ≠ .int k n) (h2 : ∀ s, r ≠ .string s) (h3 : ∀ f n, r ≠ .float f n) (h4 : ∀ f n m, r ≠ .complex f n m) :
    (op = .eql → (do eqGuard op t x y r q; binOp op t r q : Sem Value).run P w = .ok (.bool b) w) ∧ (op = .neq → (do eqGuard op t x y r q; binOp op t r q : Sem Value).run P w = .ok (.bool (!b)) w) := by
  have hg : (eqGuard op t x y r q).run P w = .ok () w := by
    rcases h0 with h0 | ⟨t', v, rfl⟩
    · exact eqGuard_none hr h0
    · unfold eqGuard
      cases q <;> cases op <;> simp
  constructor <;> rintro rfl <;> simp only [Sem.run_bind, hg, Result.andThen_ok]
  · cases r <;> first | exact absurd rfl (h1 _ _) | exact absurd rfl (h2 _) | exact absurd rfl (h3 _ _) | exact absurd rfl (h4 _ _ _) | (cases q <;> simp [binOp, h w])
  · cases r <;> first | exact absurd rfl (h1 _ _) | exact absurd rfl (h2 _) | exact absurd rfl (h3 _ _) | exact absurd rfl (h4 _ _ _) | (cases q <;> simp [binOp, h w])
theorem bin2K_spec {op : BinOp} {tx tz : TypeId} {x y : Operand} {k : AV → Bool} {v u : AV} {r q : Value} (h1 : Val ρ a x v r) (h3 : Val ρ a y u q) (g : bin2K P T op tx x y v u k = true) : Yes P ρ a (fun _ => True) (.binOp op tx x y tz) k := by
  have of_sem : ∀ {x' : AV} {v' : Value}, ren ρ x' = some v' → k x' = true → (∀ w, (do eqGuard op tx x y r q; binOp op tx r q : Sem Value).run P w = .ok v' w) → Yes P ρ a (fun _ => True) (.binOp op tx x y tz) k :=
    fun a1 a2 a3 => ⟨_, _, a1, a2, fun _ _ _ => fun a w d pos af g st => by
      have h := a3 w
      show (((do eqGuard op tx x y (a.eval x) (a.eval y); binOp op tx (a.eval x) (a.eval y) : Sem Value) >>= fun v => pure (.value v) : Sem Next)).run P w = _
      rw [st.eval (h1.ev _ _ _), st.eval (h3.ev _ _ _), Sem.run_bind, h]; rfl⟩
  have plain : plain2 P op tx x y v u k = true → Yes P ρ a (fun _ => True) (.binOp op tx x y tz) k := fun g => by
    obtain ⟨r', g1, g⟩ := opt_rec g
    obtain ⟨q', g2, g⟩ := opt_rec g
    have e1 := toV_ren g1 ρ; rw [h1.ren] at e1; cases e1
    have e2 := toV_ren g2 ρ; rw [h3.ren] at e2; cases e2
    obtain ⟨x', v', a1, a2, a3⟩ := semK_spec g ρ
    exact of_sem a1 a2 a3
  have nils : nilK T op tx v u k = true → Yes P ρ a (fun _ => True) (.binOp op tx x y tz) k := fun g => by
    obtain ⟨row, g1, g⟩ := opt_rec g
    obtain ⟨g2, g⟩ := both_eq.1 g
    obtain ⟨b, g3, g⟩ := opt_rec g
    obtain ⟨e1, e2, e3, e4, e5, e6, e7⟩ := nilFits_eq g2 (T.okT _ _ g1).td h1.ren h3.ren g3
    clear plain
    cases op <;> first
      | exact of_sem rfl g fun w => (run_eq_of e1 e2 (.inl e3) e4 e5 e6 e7).1 rfl
      | exact of_sem rfl (show k (.bool (!b)) = true by rw [← notB_eq]; exact g) fun w => (run_eq_of e1 e2 (.inl e3) e4 e5 e6 e7).2 rfl
      | cases g
  have dflt : dfltK T op tx x y v u k = true → Yes P ρ a (fun _ => True) (.binOp op tx x y tz) k := fun g => by
    unfold dfltK at g
    cases hn : isNil u with
    | true => rw [hn] at g; exact nils g
    | false => rw [hn] at g; exact plain g
  have ifn : ∀ t v', v = .iface t v' → u = .nili → ifaceNilK T op tx k = true → Yes P ρ a (fun _ => True) (.binOp op tx x y tz) k := fun t v' ev eu g => by
    obtain ⟨row, g1, g⟩ := opt_rec g
    subst ev eu
    have e1 := h1.ren
    simp only [ren, Option.map_eq_some_iff] at e1
    obtain ⟨v', _, rfl⟩ := e1
    obtain rfl : q = .nilIface := by simpa [ren] using h3.ren.symm
    obtain ⟨td, z, b⟩ := row
    clear plain nils dflt
    cases td <;> try cases g
    obtain ⟨ms, hms⟩ := (T.okT _ _ g1).td
    have e := fun w => run_equal_ifaceNil (P := P) (w := w) (u := t) (v := v') hms
    cases op <;> first
      | exact of_sem rfl g fun w => (run_eq_of e (by simp) (.inr ⟨_, _, rfl⟩) (by simp) (by simp) (by simp) (by simp)).1 rfl
      | exact of_sem rfl g fun w => (run_eq_of e (by simp) (.inr ⟨_, _, rfl⟩) (by simp) (by simp) (by simp) (by simp)).2 rfl
      | cases g
  cases v with
  | int k1 m =>
    cases u with
    | int k2 n =>
      obtain rfl : r = .int k1 m := by simpa [ren] using h1.ren.symm
      obtain rfl : q = .int k2 n := by simpa [ren] using h3.ren.symm
      obtain ⟨x', v, a1, a2, a3⟩ := intFK_spec g ρ
      exact of_sem a1 a2 fun w => by
        have hg : (eqGuard op tx x y (.int k1 m) (.int k2 n)).run P w = .ok () w := eqGuard_none (by simp) (by simp)
        rw [Sem.run_bind, hg]; exact a3 w
    | _ => cases g
  | str l =>
    cases u with
    | str m =>
      obtain ⟨s1, rfl⟩ := ren_str h1.ren
      obtain ⟨s2, rfl⟩ := ren_str h3.ren
      obtain ⟨v, r, a1, a2, a3⟩ := strOpK_spec (P := P) (ρ := ρ) (x := x) (y := y) (tx := tx) (tz := tz) g s1 s2
      exact ⟨v, r, a1, a2, fun _ _ ty => a3 _ _ _ ty (h1.ev _ _ _) (h3.ev _ _ _)⟩
    | _ => cases g
  | iface t v' =>
    cases u with
    | nili => exact ifn t v' rfl rfl g
    | _ => exact plain g
  | nili => exact plain g
  | _ => exact dflt g
theorem binK_spec {op : BinOp} {tx tz : TypeId} {x y : Operand} {k : AV → Bool} (h : binK P T fr op tx x y k = true) (s : Rel T c ρ fr ds M nx a w) : Yes P ρ a (fun _ => True) (.binOp op tx x y tz) k := by
  obtain ⟨v, r, h1, h2⟩ := argK_spec h s
  obtain ⟨u, q, h3, g⟩ := argK_spec h2 s
  exact bin2K_spec h1 h3 g
end
end Go.Ev
