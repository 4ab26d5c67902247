/- The evaluator, part D: types; operands; what a state stands for. -/
import Derived.Test.YtppdclebbcmcaaaEvC
import Derived.Test.YtppdclebbcmcaaaEnM
set_option linter.unusedSimpArgs false
set_option linter.unusedVariables false
namespace Go.Ev
open Go.Sl
noncomputable section

inductive TD where
  | bool | int (k : IntKind) | str | ptr | sl (e : TypeId) | arr (n e : Nat) | map (k e : TypeId) | st (fs : List (Nat × Nat × Nat)) | fn | ifc | other
structure TRow where
  td : TD
  size : Nat
  bytes : Nat
def TDok (P : Program) (t : TypeId) : TD → Prop
  | .bool => P.underlying t = some .bool
  | .int k => P.underlying t = some (.int k)
  | .str => P.underlying t = some .string
  | .ptr => ∃ e, P.underlying t = some (.pointer e)
  | .sl e => P.underlying t = some (.slice e)
  | .arr n e => P.underlying t = some (.array n e)
  | .map k e => P.underlying t = some (.map k e)
  | .st fs => ∃ a, P.underlying t = some (.struct a) ∧ placesOf P t = some (fs.map fun f => (f.1, f.2.2)) ∧ ∀ (i o u z : Nat), fs[i]? = some (o, u, z) → fieldInfo P t i = some (o, u) ∧ tsize P u = some z
  | .fn => ∃ ps rs b, P.underlying t = some (.func ps rs b)
  | .ifc => ∃ ms, P.underlying t = some (.interface ms)
  | .other => True
structure RowOk (P : Program) (t : TypeId) (r : TRow) : Prop where
  size : tsize P t = some r.size
  bytes : tbytes P t = some r.bytes
  td : TDok P t r.td
structure Tabs (P : Program) where
  T : Nat → Option TRow
  F : Nat → Option Func
  gl : Nat → Option Nat
  okT : ∀ t r, T t = some r → RowOk P t r
  okF : ∀ f fn, F f = some fn → P.funcs[f]? = some fn ∧ (fn.name == "runtime.NumGoroutine") = false
  /-- functions without a body -/
  X : Nat → List AV → Mem → Nat → (AV → Mem → Nat → Bool) → Bool
  okX : ∀ f vs M nx k, X f vs M nx k = true → ∀ ρ hF w rs, Rep ρ M hF w → ρ.length = nx → RL ρ vs rs → ∃ ρ' v r M' w', Ext ρ ρ' ∧ ren ρ' v = some r ∧ k v M' ρ'.length = true ∧ Rep ρ' M' hF w' ∧ Same w w' ∧ (callFunc f rs.toArray).run P w = .ok (.value r) w'
  /-- functions whose contract is known -/
  I : Nat → Option (List AV → Mem → Nat → (AV → Mem → Nat → Bool) → Bool)
  okI : ∀ f g, I f = some g → callable P f = true ∧ ∀ vs M nx k, g vs M nx k = true → ∀ ρ hF w rs, Rep ρ M hF w → ρ.length = nx → RL ρ vs rs →
    Calls P f rs.toArray w (fun e w' => ∃ ρ' v r M', Ext ρ ρ' ∧ ren ρ' v = some r ∧ e = .returned r ∧ k v M' ρ'.length = true ∧ Rep ρ' M' hF w' ∧ Same w w')

variable {P : Program}
def TD.row : TD → Option Bool
  | .st _ => some true
  | .arr _ _ => some true
  | .other => none
  | _ => some false
theorem TDok.row {t : TypeId} {d : TD} {b : Bool} (h : TDok P t d) (hb : d.row = some b) : isRow P t = some b := by
  cases d <;> simp only [TD.row, Option.some.injEq, reduceCtorEq] at hb <;> subst hb <;> simp only [TDok] at h <;> unfold isRow
  case ptr => obtain ⟨e, h⟩ := h; rw [h]; rfl
  case st => obtain ⟨a, h, _⟩ := h; rw [h]; rfl
  case fn => obtain ⟨a, b, c, h⟩ := h; rw [h]; rfl
  case ifc => obtain ⟨a, h⟩ := h; rw [h]; rfl
  all_goals rw [h]; rfl

/-! ### what is deferred -/
inductive AD where
  | call (f : FuncId) (args caps : List AV)
  | mark (i : Nat)
def renD (ρ : Env) : List AD → Option (List Deferred)
  | [] => some []
  | .call f args caps :: l => (renL ρ args).bind fun u => (renL ρ caps).bind fun v => (renD ρ l).map fun r => ⟨.fn (.func f) ⟨v⟩, ⟨u⟩⟩ :: r
  | .mark i :: l => (ρ[i]?).bind fun e => (renD ρ l).map fun r => Sl.mark e.1 :: r
theorem renD_le {ρ ρ' : Env} (x : Le ρ ρ') : ∀ {l : List AD} {r : List Deferred}, renD ρ l = some r → renD ρ' l = some r
  | [], r, h => h
  | .call f args caps :: l, r, h => by
    simp only [renD, Option.bind_eq_some_iff, Option.map_eq_some_iff] at h ⊢
    obtain ⟨u, hu, v, hv, q, hq, rfl⟩ := h
    exact ⟨u, renL_le x hu, v, renL_le x hv, q, renD_le x hq, rfl⟩
  | .mark i :: l, r, h => by
    simp only [renD, Option.bind_eq_some_iff, Option.map_eq_some_iff] at h ⊢
    obtain ⟨u, hu, q, hq, rfl⟩ := h
    exact ⟨u, x.get hu, q, renD_le x hq, rfl⟩
theorem renD_ext {ρ ρ' : Env} (x : Ext ρ ρ') {l : List AD} {r : List Deferred} (h : renD ρ l = some r) : renD ρ' l = some r := renD_le x.le h

/-- What stays the same through an activation. -/
structure Cn where
  N : Nat
  hF : Hp
  w0 : World
  ro : Option Nat
structure Rl (T : Tabs P) (c : Cn) (ρ : Env) (fr : Tr AV) (ds : List AD) (M : Mem) (nx : Nat) (a : Act) (w : World) : Prop where
  size : a.tmps.size = c.N
  slots : Fk ρ fr a.tmps
  dfs : renD ρ ds = some a.defers
  rep : Rep ρ M c.hF w
  nx : ρ.length = nx
  same : Same c.w0 w
  glob : ∀ g i, T.gl g = some i → ρ[i]? = some (g, 0, 0)

/-! ### the frame as the engine has it -/
def full (a : Act) : Fr := (List.range a.tmps.size).map fun t => (t, a.tmps.getD t undef)
theorem get_map_range (f : Nat → Value) : ∀ (n k t : Nat), Sl.get ((List.range' k n).map fun t => (t, f t)) t = if k ≤ t ∧ t < k + n then some (f t) else none
  | 0, k, t => by
    rw [if_neg (by omega)]; rfl
  | n + 1, k, t => by
    simp only [List.range'_succ, List.map_cons, Sl.get, cond_eq_ite]
    by_cases e : k = t
    · subst e; simp
    · have : Nat.beq k t = false := Bool.eq_false_iff.2 fun q => e (Nat.eq_of_beq_eq_true q)
      rw [this, get_map_range f n (k + 1) t]
      simp only [Bool.false_eq_true, if_false]
      congr 1
      simp only [eq_iff_iff]; omega
theorem get_full (a : Act) (t : Nat) : Sl.get (full a) t = if t < a.tmps.size then some (a.tmps.getD t undef) else none := by
  unfold full
  rw [List.range_eq_range', get_map_range (fun t => a.tmps.getD t undef)]
  simp
def cxA (ro : Option Nat) (a : Act) (w : World) (hF : Hp) : Cx := ⟨a.tmps.size, a.defers, hF, w, ro⟩
theorem slots_full (a : Act) : Slots a.tmps.size (full a) a := fun t v e h => by
  rw [get_full, if_pos h] at e
  cases e
  simp [h]
theorem st_full (ro : Option Nat) {Γ : List HProp} {hF : Hp} (a : Act) {w : World} (h : Sat Γ hF w) : St (cxA ro a w hF) (full a) Γ a w := ⟨rfl, rfl, slots_full a, h, .refl w⟩
/-- Back from the engine's state. -/
theorem act_of {ro : Option Nat} {Γ : List HProp} {hF : Hp} {a a' : Act} {w w' : World} {d : Option Tmp} {v : Value} (h : St (cxA ro a w hF) (upd d v (full a)) Γ a' w') : a' = a.put d v := by
  have hs : a'.tmps.size = a.tmps.size := h.size
  have hd : a'.defers = a.defers := h.defers
  have ht : ∀ t, t < a.tmps.size → a'.tmps[t]? = (a.put d v).tmps[t]? := fun t ht => by
    cases d with
    | none =>
      have := h.slots t (a.tmps.getD t undef) (by simp only [upd, get_full, if_pos ht]) ht
      rw [this]; simp [Act.put, ht]
    | some d =>
      by_cases e : d = t
      · subst e
        have := h.slots d v (by simp [upd, Sl.get]) ht
        rw [this]; simp [Act.put, ht]
      · have hb : Nat.beq d t = false := Bool.eq_false_iff.2 fun q => e (Nat.eq_of_beq_eq_true q)
        have := h.slots t (a.tmps.getD t undef) (by simp [upd, Sl.get, hb, get_full, ht]) ht
        rw [this]; simp only [Act.put]; rw [Array.getElem?_setIfInBounds_ne e]; simp [ht]
  have hsz : (a.put d v).tmps.size = a.tmps.size := by cases d <;> simp [Act.put]
  have h1 : a'.tmps = (a.put d v).tmps := by
    apply Array.ext (by rw [hs, hsz])
    intro i h1 h2
    have := ht i (by omega)
    rw [Array.getElem?_eq_getElem h1, Array.getElem?_eq_getElem h2] at this
    exact Option.some.inj this
  have h2 : a'.defers = (a.put d v).defers := by cases d <;> simp [Act.put, hd]
  cases a'; cases hp : a.put d v; rw [hp] at h1 h2; simp only at h1 h2; rw [h1, h2]
theorem yrun {a : Act} {w : World} {op : Op} {ty : TypeId} {v : Value} (h : Yl P (cxA none a w (mem w)) (full a) [] op ty v) (d : Option Tmp) (pos : String) (af : Array Edge) (g : Option (Nat × Bool)) :
    (execOp a.eval ⟨d, op, ty, pos, af, g⟩).run P w = .ok (.value v) w := h a w d pos af g (st_full none a (sat_all w))

/-! ### operands -/
def constK (v : Value) (k : AV → Bool) : Bool :=
  match v with
  | .int kd n => forceI n fun n => k (.int kd n)
  | .string ⟨⟨l⟩⟩ => mapL (fun (c : UInt8) (k : Nat → Bool) => forceN c.toNat k) l fun l => k (.str l)
  | .bool b => forceB b fun b => k (.bool b)
  | v => Option.rec false k (ofV 8 v)
theorem all2_map {α β : Type} {f : α → β} : ∀ {l : List α} {ys : List β}, All2 (fun c n => n = f c) l ys → ys = l.map f
  | [], [], _ => rfl
  | x :: l, y :: ys, h => by rw [List.map_cons, h.1, all2_map h.2]
  | [], _ :: _, h => h.elim
  | _ :: _, [], h => h.elim
theorem opt_rec {α : Type} {o : Option α} {k : α → Bool} (h : (Option.rec false k o : Bool) = true) : ∃ x, o = some x ∧ k x = true := by
  cases o with
  | none => cases h
  | some x => exact ⟨x, rfl, h⟩
theorem constK_spec {v : Value} {k : AV → Bool} (h : constK v k = true) (ρ : Env) : ∃ x, ren ρ x = some v ∧ k x = true := by
  unfold constK at h
  split at h
  · rw [forceI_eq] at h; exact ⟨_, rfl, h⟩
  · rename_i l
    obtain ⟨ys, h1, h2⟩ := mapL_spec (p := fun c n => n = UInt8.toNat c) (fun x k h => ⟨_, rfl, by rw [forceN_eq] at h; exact h⟩) h
    refine ⟨_, ?_, h2⟩
    rw [all2_map h1]
    unfold ren; rw [if_pos (small_u8 _), strV, u8_back]
  · rw [forceB_eq] at h; exact ⟨_, rfl, h⟩
  · obtain ⟨x, h1, h2⟩ := opt_rec h
    exact ⟨x, ofV_spec _ _ _ h1, h2⟩
def argK (T : Tabs P) (fr : Tr AV) (x : Operand) (k : AV → Bool) : Bool :=
  match x with
  | .tmp t => Option.rec false k (fr.get t)
  | .const v => constK v k
  | .global g => Option.rec false (fun i => k (.ptr i 0)) (T.gl g)
  | .func f => k (.fn (.func f) [] [])
variable {T : Tabs P} {c : Cn} {ρ : Env} {fr : Tr AV} {ds : List AD} {M : Mem} {nx : Nat} {a : Act} {w : World}
/-- The operand x is v, which stands for r. -/
structure Val (ρ : Env) (a : Act) (x : Operand) (v : AV) (r : Value) : Prop where
  ren : ren ρ v = some r
  ev : ∀ ro w hF, Sl.ev (cxA ro a w hF) (full a) x = some r
theorem Val.eval {x : Operand} {v : AV} {r : Value} (h : Val ρ a x v r) : a.eval x = r := (st_full (Γ := []) none a (sat_all (default : World))).eval (h.ev none _ _)
theorem argK_spec {x : Operand} {k : AV → Bool} (h : argK T fr x k = true) (s : Rl T c ρ fr ds M nx a w) : ∃ v r, Val ρ a x v r ∧ k v = true := by
  unfold argK at h
  split at h
  · rename_i t
    obtain ⟨v, h1, h2⟩ := opt_rec h
    obtain ⟨r, h3, h4⟩ := s.slots t v h1
    refine ⟨v, r, ⟨h4, fun ro w hF => ?_⟩, h2⟩
    have hlt : t < a.tmps.size := (Array.getElem?_eq_some_iff.1 h3).1
    have hb : Nat.blt t a.tmps.size = true := by rw [Nat.blt_eq]; exact hlt
    simp only [Sl.ev, cxA, hb, cond_true, get_full, if_pos hlt]
    simp [h3]
  · obtain ⟨v, h1, h2⟩ := constK_spec h ρ
    exact ⟨v, _, ⟨h1, fun _ _ _ => rfl⟩, h2⟩
  · rename_i g
    obtain ⟨i, h1, h2⟩ := opt_rec h
    refine ⟨_, _, ⟨by simp [ren, s.glob g i h1], fun _ _ _ => rfl⟩, h2⟩
  · exact ⟨_, _, ⟨by simp [ren, renL], fun _ _ _ => rfl⟩, h⟩
/-- Several operands. -/
def argsK (T : Tabs P) (fr : Tr AV) (xs : List Operand) (k : List AV → Bool) : Bool := mapL (argK T fr) xs k
def Vals (ρ : Env) (a : Act) (xs : List Operand) (vs : List AV) (rs : List Value) : Prop := RL ρ vs rs ∧ ∀ ro w hF, evs (cxA ro a w hF) (full a) xs = some rs
theorem argsK_spec (s : Rl T c ρ fr ds M nx a w) : ∀ {xs : List Operand} {k : List AV → Bool}, argsK T fr xs k = true → ∃ vs rs, Vals ρ a xs vs rs ∧ k vs = true
  | [], k, h => ⟨[], [], ⟨RL.nil, fun _ _ _ => rfl⟩, h⟩
  | x :: xs, k, h => by
    obtain ⟨v, r, h1, h⟩ := argK_spec (k := fun v => argsK T fr xs fun vs => k (v :: vs)) h s
    obtain ⟨vs, rs, h2, h⟩ := argsK_spec s h
    exact ⟨v :: vs, r :: rs, ⟨RL.cons h1.ren h2.1, fun ro w hF => by simp [evs, h1.ev ro w hF, h2.2 ro w hF]⟩, h⟩
end
end Go.Ev
