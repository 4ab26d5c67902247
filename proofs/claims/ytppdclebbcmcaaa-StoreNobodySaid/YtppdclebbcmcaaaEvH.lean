/- The evaluator, part H: cuts, keys of maps, literals, type assertions. -/
import Derived.Test.YtppdclebbcmcaaaEvG
set_option linter.unusedSimpArgs false
set_option linter.unusedVariables false
namespace Go.Ev
open Go.Sl
noncomputable section
variable {P : Program} {T : Tabs P} {c : Cn} {ρ : Env} {fr : Tr AV} {ds : List AD} {M : Mem} {nx : Nat} {a : Act} {w : World}

/-! ### zero values -/
def zeroA (P : Program) (t : TypeId) : Option AV := (zeroV P t).bind (ofV 9)
theorem zeroA_spec {t : TypeId} {v : AV} (h : zeroA P t = some v) (ρ : Env) : ∃ z, zeroV P t = some z ∧ ren ρ v = some z ∧ zeroL P t = some z.cells.toList := by
  obtain ⟨z, h1, h2⟩ := Option.bind_eq_some_iff.1 h
  refine ⟨z, h1, ofV_spec _ _ _ h2, ?_⟩
  unfold zeroV at h1; unfold zeroL; rw [h1]; rfl
/-- The zero value, whole. -/
def zeroK (P : Program) (t : TypeId) (k : AV → Bool) : Bool := Option.rec false k (zeroA P t)

/-! ### cuts -/
def optN (T : Tabs P) (fr : Tr AV) (x : Option Operand) (d : Nat) (k : Nat → Bool) : Bool := match x with
  | none => k d
  | some y => argK T fr y fun v => match v with
    | .int _ (.ofNat n) => k n
    | _ => false
def Opt (ρ : Env) (a : Act) (x : Option Operand) (d n : Nat) : Prop := (x = none ∧ n = d) ∨ ∃ y kd, x = some y ∧ Val ρ a y (.int kd (.ofNat n)) (.int kd (.ofNat n))
theorem optN_spec {x : Option Operand} {d : Nat} {k : Nat → Bool} (h : optN T fr x d k = true) (s : Rel T c ρ fr ds M nx a w) : ∃ n, Opt ρ a x d n ∧ k n = true := by
  unfold optN at h
  split at h
  · exact ⟨d, .inl ⟨rfl, rfl⟩, h⟩
  · rename_i y
    obtain ⟨v, r, h1, h2⟩ := argK_spec h s
    cases v <;> try (cases h2; done)
    rename_i kd i
    cases i with
    | ofNat n =>
      obtain rfl : r = .int kd (.ofNat n) := by simpa [ren] using h1.ren.symm
      exact ⟨n, .inr ⟨y, kd, rfl, h1⟩, h2⟩
    | negSucc n => cases h2
theorem bounds_run {b : Bool} {len cap l h m : Nat} {lo hi mx : Option Operand} {dl dh dm : Nat} (h1 : Opt ρ a lo dl l) (h2 : Opt ρ a hi dh h) (h3 : Opt ρ a mx dm m) (hl : lo = none → l = 0) (hh : hi = none → h = len ∧ mx = none) (hm : mx = none → m = cap) (hm' : m ≤ cap) (hh' : hi = none ∨ h ≤ m) (hlh : l ≤ h) :
    (Instr.sliceBounds b len cap (lo.map a.eval) (hi.map a.eval) (mx.map a.eval)).run P w = .ok (l, h, m) w := by
  have e1 : ∀ {x : Option Operand} {d n : Nat}, Opt ρ a x d n → x = none ∨ ∃ y kd, x = some y ∧ a.eval y = .int kd (n : Int) := fun h => by
    rcases h with ⟨h, _⟩ | ⟨y, kd, rfl, h⟩
    · exact .inl h
    · exact .inr ⟨y, kd, rfl, h.eval⟩
  rcases e1 h3 with rfl | ⟨y3, k3, rfl, v3⟩
  · obtain rfl := hm rfl
    rcases e1 h2 with rfl | ⟨y2, k2, rfl, v2⟩
    · obtain ⟨rfl, _⟩ := hh rfl
      rcases e1 h1 with rfl | ⟨y1, k1, rfl, v1⟩
      · obtain rfl := hl rfl
        simp [Instr.sliceBounds]
      · simp [Instr.sliceBounds, Instr.sliceBound, asIntOf, v1, hlh]
    · have hh' : h ≤ m := hh'.resolve_left (by simp)
      rcases e1 h1 with rfl | ⟨y1, k1, rfl, v1⟩
      · obtain rfl := hl rfl
        simp [Instr.sliceBounds, Instr.sliceBound, asIntOf, v2, hh']
      · simp [Instr.sliceBounds, Instr.sliceBound, asIntOf, v1, v2, hlh, hh']
  · rcases e1 h2 with rfl | ⟨y2, k2, rfl, v2⟩
    · obtain ⟨_, h⟩ := hh rfl; cases h
    · have hh' : h ≤ m := hh'.resolve_left (by simp)
      rcases e1 h1 with rfl | ⟨y1, k1, rfl, v1⟩
      · obtain rfl := hl rfl
        simp [Instr.sliceBounds, Instr.sliceBound, asIntOf, v2, v3, hh', hm']
      · simp [Instr.sliceBounds, Instr.sliceBound, asIntOf, v1, v2, v3, hlh, hh', hm']
theorem Yl.cut {t e : TypeId} {sz l h m n cap : Nat} {p : Option Addr} {x : Operand} {lo hi mx : Option Operand} (ht : P.underlying t = some (.slice e)) (hs : tsize P e = some sz) (hx : a.eval x = .slice p n cap)
    (hb : ∀ w, (Instr.sliceBounds true n cap (lo.map a.eval) (hi.map a.eval) (mx.map a.eval)).run P w = .ok (l, h, m) w) (d : Option Tmp) (ty : TypeId) (pos : String) (af : Array Edge) (g : Option (Nat × Bool)) (w : World) :
    (execOp a.eval ⟨d, .slice t x lo hi mx, ty, pos, af, g⟩).run P w = .ok (.value (.slice (if m = l then p else p.map (·.add (l * sz))) (h - l) (m - l))) w := by
  simp [execOp, Instr.sliceAt, Instr.slice, run_underlying ht, Sl.run_sizeOf hs, hx, hb]
theorem Yl.cutArr {t e : TypeId} {sz l h m n : Nat} {p : Addr} {x : Operand} {lo hi mx : Option Operand} (ht : P.underlying t = some (.array n e)) (hs : tsize P e = some sz) (hx : a.eval x = .pointer (some p))
    (hb : ∀ w, (Instr.sliceBounds false n n (lo.map a.eval) (hi.map a.eval) (mx.map a.eval)).run P w = .ok (l, h, m) w) (d : Option Tmp) (ty : TypeId) (pos : String) (af : Array Edge) (g : Option (Nat × Bool)) (w : World) :
    (execOp a.eval ⟨d, .slice t x lo hi mx, ty, pos, af, g⟩).run P w = .ok (.value (.slice (some (if m = l then p else p.add (l * sz))) (h - l) (m - l))) w := by
  simp [execOp, Instr.sliceAt, Instr.sureAddr, run_underlying ht, Sl.run_sizeOf hs, hx, hb]
/-- Of the activation's operands alone. -/
theorem yl_of {op : Op} {ty : TypeId} {r : Value} (h : ∀ d pos af g w, (execOp a.eval ⟨d, op, ty, pos, af, g⟩).run P w = .ok (.value r) w) : Yl P (cxA none a w (mem w)) (full a) [] op ty r := fun a' w' d pos af g st => by
  have : a'.eval = a.eval ∨ True := .inr trivial
  have ht : a'.tmps = a.tmps := by
    apply Array.ext (show a'.tmps.size = a.tmps.size from st.size)
    intro i h1 h2
    have := st.slots i (a.tmps.getD i undef) (by rw [get_full, if_pos h2]) h2
    rw [Array.getElem?_eq_getElem h1] at this
    simpa [h2] using this
  have he : a'.eval = a.eval := by funext x; cases x <;> simp [Act.eval, ht]
  rw [he]; exact h d pos af g w'
def noMax (mx hi : Option Operand) (b : Bool) : Bool := match mx with
  | some _ => (match hi with
    | none => false
    | some _ => b)
  | none => b
def anyS (lo hi : Option Operand) : Bool := match lo with
  | none => hi.isSome
  | some _ => true
/-- Where a cut begins. -/
def startK (o l sz : Nat) (moved : Bool) (k : Nat → Bool) : Bool := Bool.rec (k o) (forceN (Nat.add o (Nat.mul l sz)) k) moved
def cutSlK (sz : Nat) (i o n c : Nat) (sb : Bool) (l h : Nat) (k : AV → Bool) : Bool :=
  both (Nat.ble h c) (both (Nat.ble l h) (forceN (Nat.sub h l) fun n' => forceN (Nat.sub c l) fun c' =>
    Bool.rec (startK o l sz true fun o' => k (.sl i o' n' c' sb)) (Bool.rec (startK o l sz false fun o' => k (.sl i o' n' c' sb)) (Bool.rec (forceN (Nat.add o (Nat.mul l sz)) fun o' => k (.em i o o' true)) (k (.sl i o n' c' sb)) (Nat.beq l 0)) sb) (Nat.beq l c)))
def sliceK (P : Program) (T : Tabs P) (fr : Tr AV) (t : TypeId) (x : Operand) (lo hi mx : Option Operand) (k : AV → Bool) : Bool := argK T fr x fun v => Option.rec false (fun r => match r with
  | ⟨.sl e, _, _⟩ => Option.rec false (fun q => match v with
    | .sl i o n c sb => (match mx with
      | none => optN T fr hi n fun h => optN T fr lo 0 fun l => cutSlK q.size i o n c sb l h k
      | some _ => (match hi with
        | none => false
        | some _ => optN T fr mx 0 fun m => optN T fr hi 0 fun h => optN T fr lo 0 fun l => both (Nat.ble m c) (both (Nat.ble h m) (both (Nat.ble l h) (forceN (Nat.sub h l) fun n' => forceN (Nat.sub m l) fun c' =>
            startK o l q.size (notB (Nat.beq m l)) fun o' => k (.sl i o' n' c' false)))))) 
    | .nils => optN T fr mx 0 fun m => optN T fr hi 0 fun h => optN T fr lo 0 fun l => both (Nat.beq m 0) (both (Nat.beq h 0) (both (Nat.beq l 0) (noMax mx hi (k .nils))))
    | .em i o o' sb => (match mx with
      | none => optN T fr hi 0 fun h => optN T fr lo 0 fun l => both (Nat.beq h 0) (both (Nat.beq l 0) (k (.em i o o' sb)))
      | some _ => (match hi with
        | none => false
        | some _ => optN T fr mx 0 fun m => optN T fr hi 0 fun h => optN T fr lo 0 fun l => both (Nat.beq m 0) (both (Nat.beq h 0) (both (Nat.beq l 0) (k (.em i o o' false))))))
    | _ => false) (T.T e)
  | ⟨.arr n e, _, _⟩ => Option.rec false (fun q => match v with
    | .ptr i o => (match mx with
      | none => optN T fr hi n fun h => optN T fr lo 0 fun l => both (Nat.ble h n) (both (Nat.ble l h) (forceN (Nat.sub h l) fun n' => forceN (Nat.sub n l) fun c' => startK o l q.size (notB (Nat.beq n l)) fun o' => k (.sl i o' n' c' false)))
      | some _ => false)
    | _ => false) (T.T e)
  | ⟨.str, _, _⟩ => (match v with
    | .str s => (match mx with
      | none => both (anyS lo hi) (lenL s 0 fun n => optN T fr hi n fun h => optN T fr lo 0 fun l => both (Nat.ble h n) (both (Nat.ble l h) (splitL s h fun A _ => splitL A l fun _ B => k (.str B))))
      | some _ => false)
    | _ => false)
  | _ => false) (T.T t)
theorem startK_spec {o l sz : Nat} {mv : Bool} {k : Nat → Bool} (h : startK o l sz mv k = true) : k (cond mv (o + l * sz) o) = true := by
  unfold startK at h
  cases mv with
  | false => exact h
  | true => rw [forceN_eq] at h; exact h
theorem add_if {b o n : Nat} : (Addr.mk b o none).add n = ⟨b, o + n, none⟩ := Addr.add_mid b o n
theorem small_take {l : List Nat} (h : small l = true) (n : Nat) : small (l.take n) = true := by
  unfold small at *
  rw [List.all_eq_true] at *
  exact fun x hx => h x (List.mem_of_mem_take hx)
theorem small_drop {l : List Nat} (h : small l = true) (n : Nat) : small (l.drop n) = true := by
  unfold small at *
  rw [List.all_eq_true] at *
  exact fun x hx => h x (List.mem_of_mem_drop hx)
theorem cutSlK_spec {sz i o n cc l h : Nat} {sb : Bool} {k : AV → Bool} (g : cutSlK sz i o n cc sb l h k = true) {e : Nat × Nat × Nat} (he : ρ[i]? = some e) :
    h ≤ cc ∧ l ≤ h ∧ ∃ v, k v = true ∧ ren ρ v = some (.slice (if cc + cond sb e.2.2 0 = l then some ⟨e.1, e.2.1 + o, none⟩ else some ⟨e.1, e.2.1 + o + l * sz, none⟩) (h - l) (cc + cond sb e.2.2 0 - l)) := by
  unfold cutSlK at g
  obtain ⟨g1, g⟩ := both_eq.1 g
  obtain ⟨g2, g⟩ := both_eq.1 g
  rw [forceN_eq, forceN_eq] at g
  have g1 := Nat.le_of_ble_eq_true g1
  have g2 := Nat.le_of_ble_eq_true g2
  refine ⟨g1, g2, ?_⟩
  cases q : Nat.beq l cc with
  | false =>
    rw [q] at g
    have hne : l ≠ cc := fun e => by subst e; simp at q
    have g := startK_spec (show startK o l sz true (fun o' => k (.sl i o' (h - l) (cc - l) sb)) = true from g)
    refine ⟨_, g, ?_⟩
    simp only [ren, he, Option.map_some, cond_true]
    rw [if_neg (by omega)]
    cases sb
    · simp [Nat.add_assoc]
    · simp only [cond_true, Option.some.injEq, Value.slice.injEq, true_and]; exact ⟨by simp [Nat.add_assoc], by omega⟩
  | true =>
    have hq := Nat.eq_of_beq_eq_true q
    rw [q] at g
    subst hq
    cases sb with
    | false =>
      have g := startK_spec (show startK o l sz false (fun o' => k (.sl i o' (h - l) (l - l) false)) = true from g)
      refine ⟨_, g, ?_⟩
      simp [ren, he]
    | true =>
      cases q2 : Nat.beq l 0 with
      | true =>
        have e2 := Nat.eq_of_beq_eq_true q2
        subst e2
        refine ⟨_, g, ?_⟩
        simp only [ren, he, Option.map_some, cond_true, Nat.zero_mul, Nat.add_zero, ite_self, Nat.sub_zero]
        rfl
      | false =>
        rw [q2] at g
        have g : forceN (Nat.add o (Nat.mul l sz)) (fun o' => k (.em i o o' true)) = true := g
        rw [forceN_eq] at g
        refine ⟨_, g, ?_⟩
        simp only [ren, he, Option.map_some, cond_true]
        have hh : h = l := by omega
        subst hh
        cases q3 : Nat.beq e.2.2 0 with
        | true =>
          have := Nat.eq_of_beq_eq_true q3
          rw [this]; simp
        | false =>
          have : e.2.2 ≠ 0 := fun z => by rw [z] at q3; simp at q3
          rw [if_neg (by omega)]
          simp [Nat.add_assoc]
theorem sliceK_spec {t : TypeId} {x : Operand} {lo hi mx : Option Operand} {k : AV → Bool} (h : sliceK P T fr t x lo hi mx k = true) (s : Rel T c ρ fr ds M nx a w) : Yes P ρ a (fun _ => True) (.slice t x lo hi mx) k := by
  obtain ⟨v, r, h1, h2⟩ := argK_spec h s
  obtain ⟨row, h3, h2⟩ := opt_rec h2
  have hrow := (T.okT _ _ h3).td
  obtain ⟨d, z, b⟩ := row
  clear h
  cases d with
  | sl e =>
    obtain ⟨q, h4, h2⟩ := opt_rec h2
    have hq := (T.okT _ _ h4).size
    cases v with
    | sl i o n cc sb =>
      have e1 := h1.ren
      simp only [ren, Option.map_eq_some_iff] at e1
      obtain ⟨e', he, rfl⟩ := e1
      cases mx with
      | none =>
        obtain ⟨hh, o2, h2⟩ := optN_spec (k := fun h => optN T fr lo 0 fun l => cutSlK q.size i o n cc sb l h k) h2 s
        obtain ⟨l, o1, h2⟩ := optN_spec h2 s
        obtain ⟨c1, c2, v', c3, c4⟩ := cutSlK_spec h2 he
        refine ⟨v', _, c4, c3, fun _ _ ty => yl_of fun d pos af g w' => ?_⟩
        have := Yl.cut hrow hq h1.eval (fun w => bounds_run (b := true) (P := P) (w := w) o1 o2 (.inl ⟨rfl, rfl⟩ : Opt ρ a none (cc + cond sb e'.2.2 0) (cc + cond sb e'.2.2 0)) (fun q => by rcases o1 with ⟨_, q'⟩ | ⟨_, _, q', _⟩; exact q'; rw [q] at q'; cases q')
          (fun q => by rcases o2 with ⟨_, q'⟩ | ⟨_, _, q', _⟩; exact ⟨q', rfl⟩; rw [q] at q'; cases q') (fun _ => rfl) (Nat.le_refl _) (.inr (by omega)) c2) d ty pos af g w'
        rw [this]
        simp only [Option.map_some, add_if]
      | some m' =>
        cases hi with
        | none => cases h2
        | some h' =>
          obtain ⟨m, o3, h2⟩ := optN_spec (k := fun m => optN T fr (some h') 0 fun h => optN T fr lo 0 fun l => both (Nat.ble m cc) (both (Nat.ble h m) (both (Nat.ble l h) (forceN (Nat.sub h l) fun n' => forceN (Nat.sub m l) fun c' =>
            startK o l q.size (notB (Nat.beq m l)) fun o' => k (.sl i o' n' c' false))))) h2 s
          obtain ⟨hh, o2, h2⟩ := optN_spec h2 s
          obtain ⟨l, o1, h2⟩ := optN_spec h2 s
          obtain ⟨c1, h2⟩ := both_eq.1 h2
          obtain ⟨c2, h2⟩ := both_eq.1 h2
          obtain ⟨c3, h2⟩ := both_eq.1 h2
          rw [forceN_eq, forceN_eq] at h2
          have h2 := startK_spec h2
          have c1 := Nat.le_of_ble_eq_true c1
          have c2 := Nat.le_of_ble_eq_true c2
          have c3 := Nat.le_of_ble_eq_true c3
          refine ⟨_, _, by simp only [ren, he, Option.map_some]; rfl, h2, fun _ _ ty => yl_of fun d pos af g w' => ?_⟩
          have := Yl.cut hrow hq h1.eval (fun w => bounds_run (b := true) (P := P) (w := w) o1 o2 o3 (fun q => by rcases o1 with ⟨_, q'⟩ | ⟨_, _, q', _⟩; exact q'; rw [q] at q'; cases q')
            (fun q => by cases q) (fun q => by cases q) (by omega) (.inr c2) c3) d ty pos af g w'
          rw [this, notB_eq]
          simp only [Option.map_some, add_if, cond_false, Nat.add_zero]
          cases q3 : Nat.beq m l with
          | true => rw [if_pos (Nat.eq_of_beq_eq_true q3)]; simp
          | false => rw [if_neg (fun z => by rw [z] at q3; simp at q3)]; simp [Nat.add_assoc]
    | nils =>
      obtain rfl : r = .slice none 0 0 := by simpa [ren] using h1.ren.symm
      obtain ⟨m, o3, h2⟩ := optN_spec (k := fun m => optN T fr hi 0 fun h => optN T fr lo 0 fun l => both (Nat.beq m 0) (both (Nat.beq h 0) (both (Nat.beq l 0) (noMax mx hi (k .nils))))) h2 s
      obtain ⟨hh, o2, h2⟩ := optN_spec h2 s
      obtain ⟨l, o1, h2⟩ := optN_spec h2 s
      obtain ⟨c1, h2⟩ := both_eq.1 h2
      obtain ⟨c2, h2⟩ := both_eq.1 h2
      obtain ⟨c3, h2⟩ := both_eq.1 h2
      obtain rfl := Nat.eq_of_beq_eq_true c1
      obtain rfl := Nat.eq_of_beq_eq_true c2
      obtain rfl := Nat.eq_of_beq_eq_true c3
      have hhi : hi = none → mx = none := by
        rintro rfl
        cases mx with
        | none => rfl
        | some _ => cases h2
      have hk : k .nils = true := by cases mx <;> cases hi <;> first | exact h2 | cases h2
      refine ⟨.nils, _, rfl, hk, fun _ _ ty => yl_of fun d pos af g w' => ?_⟩
      have := Yl.cut hrow hq h1.eval (fun w => bounds_run (b := true) (P := P) (w := w) o1 o2 o3 (fun _ => rfl) (fun q => ⟨rfl, hhi q⟩) (fun _ => rfl) (Nat.le_refl _) (.inr (Nat.le_refl _)) (Nat.le_refl _)) d ty pos af g w'
      rw [this]; simp
    | em i o o' sb =>
      have e1 := h1.ren
      simp only [ren, Option.map_eq_some_iff] at e1
      obtain ⟨e', he, rfl⟩ := e1
      have h0 : ∀ p : Addr, p.add 0 = p := fun p => rfl
      cases mx with
      | none =>
        obtain ⟨hh, o2, h2⟩ := optN_spec (k := fun h => optN T fr lo 0 fun l => both (Nat.beq h 0) (both (Nat.beq l 0) (k (.em i o o' sb)))) h2 s
        obtain ⟨l, o1, h2⟩ := optN_spec h2 s
        obtain ⟨c2, h2⟩ := both_eq.1 h2
        obtain ⟨c3, h2⟩ := both_eq.1 h2
        obtain rfl := Nat.eq_of_beq_eq_true c2
        obtain rfl := Nat.eq_of_beq_eq_true c3
        refine ⟨_, _, h1.ren, h2, fun _ _ ty => yl_of fun d pos af g w' => ?_⟩
        have := Yl.cut hrow hq h1.eval (fun w => bounds_run (b := true) (P := P) (w := w) o1 o2 (.inl ⟨rfl, rfl⟩ : Opt ρ a none (cond sb e'.2.2 0) (cond sb e'.2.2 0)) (fun _ => rfl) (fun _ => ⟨rfl, rfl⟩) (fun _ => rfl) (Nat.le_refl _) (.inr (Nat.zero_le _)) (Nat.le_refl _)) d ty pos af g w'
        rw [this]; simp [h0]
      | some m' =>
        cases hi with
        | none => cases h2
        | some h' =>
          obtain ⟨m, o3, h2⟩ := optN_spec (k := fun m => optN T fr (some h') 0 fun h => optN T fr lo 0 fun l => both (Nat.beq m 0) (both (Nat.beq h 0) (both (Nat.beq l 0) (k (.em i o o' false))))) h2 s
          obtain ⟨hh, o2, h2⟩ := optN_spec h2 s
          obtain ⟨l, o1, h2⟩ := optN_spec h2 s
          obtain ⟨c1, h2⟩ := both_eq.1 h2
          obtain ⟨c2, h2⟩ := both_eq.1 h2
          obtain ⟨c3, h2⟩ := both_eq.1 h2
          obtain rfl := Nat.eq_of_beq_eq_true c1
          obtain rfl := Nat.eq_of_beq_eq_true c2
          obtain rfl := Nat.eq_of_beq_eq_true c3
          refine ⟨_, .slice (some ⟨e'.1, e'.2.1 + cond (Nat.beq e'.2.2 0) o o', none⟩) 0 0, by simp only [ren, he, Option.map_some, cond_false], h2, fun _ _ ty => yl_of fun d pos af g w' => ?_⟩
          have := Yl.cut hrow hq h1.eval (fun w => bounds_run (b := true) (P := P) (w := w) o1 o2 o3 (fun _ => rfl) (fun q => by cases q) (fun q => by cases q) (Nat.zero_le _) (.inr (Nat.le_refl _)) (Nat.le_refl _)) d ty pos af g w'
          rw [this]; simp
    | _ => cases h2
  | arr n e =>
    obtain ⟨q, h4, h2⟩ := opt_rec h2
    have hq := (T.okT _ _ h4).size
    cases v with
    | ptr i o =>
      have e1 := h1.ren
      simp only [ren, Option.map_eq_some_iff] at e1
      obtain ⟨e', he, rfl⟩ := e1
      cases mx with
      | none =>
        obtain ⟨hh, o2, h2⟩ := optN_spec (k := fun h => optN T fr lo 0 fun l => both (Nat.ble h n) (both (Nat.ble l h) (forceN (Nat.sub h l) fun n' => forceN (Nat.sub n l) fun c' => startK o l q.size (notB (Nat.beq n l)) fun o' => k (.sl i o' n' c' false)))) h2 s
        obtain ⟨l, o1, h2⟩ := optN_spec h2 s
        obtain ⟨c1, h2⟩ := both_eq.1 h2
        obtain ⟨c2, h2⟩ := both_eq.1 h2
        rw [forceN_eq, forceN_eq] at h2
        have h2 := startK_spec h2
        have c1 := Nat.le_of_ble_eq_true c1
        have c2 := Nat.le_of_ble_eq_true c2
        refine ⟨_, _, by simp only [ren, he, Option.map_some]; rfl, h2, fun _ _ ty => yl_of fun d pos af g w' => ?_⟩
        have := Yl.cutArr hrow hq h1.eval (fun w => bounds_run (b := false) (P := P) (w := w) o1 o2 (.inl ⟨rfl, rfl⟩ : Opt ρ a none n n) (fun q => by rcases o1 with ⟨_, q'⟩ | ⟨_, _, q', _⟩; exact q'; rw [q] at q'; cases q')
          (fun q => by rcases o2 with ⟨_, q'⟩ | ⟨_, _, q', _⟩; exact ⟨q', rfl⟩; rw [q] at q'; cases q') (fun _ => rfl) (Nat.le_refl _) (.inr c1) c2) d ty pos af g w'
        rw [this, notB_eq]
        simp only [add_if, cond_false, Nat.add_zero]
        cases q3 : Nat.beq n l with
        | true => rw [if_pos (Nat.eq_of_beq_eq_true q3)]; simp
        | false => rw [if_neg (fun z => by rw [z] at q3; simp at q3)]; simp [Nat.add_assoc]
      | some m' => cases h2
    | _ => cases h2
  | str =>
    cases v with
    | str sl =>
      obtain ⟨s1, rfl⟩ := ren_str h1.ren
      cases mx with
      | none =>
        obtain ⟨hany, h2⟩ := both_eq.1 h2
        have h2 : lenL sl 0 (fun n => optN T fr hi n fun h => optN T fr lo 0 fun l => both (Nat.ble h n) (both (Nat.ble l h) (splitL sl h fun A _ => splitL A l fun _ B => k (.str B)))) = true := h2
        rw [lenL_eq] at h2
        obtain ⟨hh, o2, h2⟩ := optN_spec h2 s
        obtain ⟨l, o1, h2⟩ := optN_spec h2 s
        obtain ⟨c1, h2⟩ := both_eq.1 h2
        obtain ⟨c2, h2⟩ := both_eq.1 h2
        obtain ⟨_, h2⟩ := splitL_spec h2
        obtain ⟨_, h2⟩ := splitL_spec h2
        have c1 := Nat.le_of_ble_eq_true c1
        have c2 := Nat.le_of_ble_eq_true c2
        refine ⟨_, _, ren_strV (small_drop (small_take s1 hh) l), h2, fun w _ ty => ?_⟩
        have e2 : strV ((sl.take hh).drop l) = str (((sl.map UInt8.ofNat).take hh).drop l) := by unfold strV; rw [List.map_drop, List.map_take]
        rw [e2]
        rcases o1 with ⟨rfl, rfl⟩ | ⟨y1, k1, rfl, v1⟩ <;> rcases o2 with ⟨rfl, rfl⟩ | ⟨y2, k2, rfl, v2⟩
        · cases hany
        · have := Yl.str_h (P := P) (Γ := []) (ty := ty) (t := t) hrow (h1.ev none w (mem w)) (v2.ev none w (mem w)) ⟨by simp, by simpa using c1⟩
          simpa using this
        · have := Yl.str_l (P := P) (Γ := []) (ty := ty) (t := t) hrow (h1.ev none w (mem w)) (v1.ev none w (mem w)) ⟨by simp, by simpa using c2⟩
          rw [List.take_of_length_le (by simp)]
          simpa using this
        · have := Yl.str_lh (P := P) (Γ := []) (ty := ty) (t := t) hrow (h1.ev none w (mem w)) (v1.ev none w (mem w)) (v2.ev none w (mem w)) ⟨by simp, by simpa using c2, by simpa using c1⟩
          rw [List.drop_take]
          simpa using this
      | some m' => cases h2
    | _ => cases h2
  | _ => cases h2
end
end Go.Ev
