/- The engine, part C: operations that leave the world alone. -/
import Derived.Test.YtabbonafljochaaGreatDoorEnB
import Derived.OrdersIn
namespace Go.Sl
variable {P : Program} {cx : Cx} {fr : Fr} {Γ : List HProp} {Q : Exit → Act → World → Prop} {ops : Array Oper} {rest : List Oper}

def Wt (cx : Cx) (ops : Array Oper) (fr : Fr) (g : Option (Nat × Bool)) (b : Bool) : Prop :=
  ∀ a d op ty pos af, Slots cx.N fr a → Region.wanted ⟨d, op, ty, pos, af, g⟩ (yielded ops a.tmps) = b
theorem Wt.none : Wt cx ops fr none true := fun a d op ty pos af _ => by simp [Region.wanted]
theorem Wt.some {j t : Nat} {want b r : Bool} (hj : (ops[j]?).bind (·.dst) = some t) (hv : ev cx fr (.tmp t) = some (.bool b)) (hr : (b == want) = r) : Wt cx ops fr (some (j, want)) r := fun a d op ty pos af s => by
  subst hr
  simp only [Sl.ev, cond_eq_ite] at hv
  split at hv
  · rename_i hlt
    have h := s t _ hv (by simpa [Nat.blt_eq] using hlt)
    simp [Region.wanted, yielded, hj, h]
  · cases hv
theorem wt_undef {j t : Nat} {want : Bool} (hj : (ops[j]?).bind (·.dst) = some t) (hv : ev cx fr (.tmp t) = some undef) : Wt cx ops fr (some (j, want)) false := fun a d op ty pos af s => by
  simp only [Sl.ev, cond_eq_ite] at hv
  split at hv
  · rename_i hlt
    have h := s t _ hv (by simpa [Nat.blt_eq] using hlt)
    simp [Region.wanted, yielded, hj, h, Go.undef]
  · cases hv

/-- It leaves v, and the world as it is. -/
def Yl (P : Program) (cx : Cx) (fr : Fr) (Γ : List HProp) (op : Op) (ty : TypeId) (v : Value) : Prop :=
  ∀ a w d pos af g, St cx fr Γ a w → (execOp a.eval ⟨d, op, ty, pos, af, g⟩).run P w = .ok (.value v) w

/-- One operation, and what is to hold behind it. -/
def GO (P : Program) (cx : Cx) (ops : Array Oper) (Q : Exit → Act → World → Prop) (o : Oper) (K : Act → World → Prop) (fr : Fr) (Γ : List HProp) : Prop :=
  GK cx (fun a w => if Region.wanted o (yielded ops a.tmps) then o.wpIn (FW cx.ro) 0 P a w K Q else K (a.put o.dst undef) w) fr Γ
theorem GL.cons {o : Oper} (h : GO P cx ops Q o (wpListIn (FW cx.ro) 0 P ops Q rest) fr Γ) : GL P cx ops (o :: rest) Q fr Γ := fun a w s => wpListIn_step fun K hK => by
  have := h a w s
  split
  · rename_i e; simp only [e, if_true] at this; exact Oper.wpIn_mono hK this
  · rename_i e; simp only [e] at this; exact ⟨fun _ _ => trivial, hK _ _ this⟩

/-- What an operation that is no 'defer' does in a round is what it does elsewhere. -/
theorem wpIn_of_run {ro : Option Nat} {o : Oper} {a : Act} {w : World} {K : Act → World → Prop} (ho : ∀ c, o.op ≠ .defer c) (h : o.uponIn (FW ro) 0 P a K Q ((execOp a.eval o).run P w)) : o.wpIn (FW ro) 0 P a w K Q :=
  ⟨fun _ _ => trivial, by rw [Oper.semAt_eq _ _ _ ho]; exact h⟩
theorem exec_defer {ρ : Operand → Value} {o : Oper} {c : Call} (h : o.op = .defer c) (w w' : World) : (∀ v, (execOp ρ o).run P w ≠ .ok (.value v) w') ∧ (execOp ρ o).run P w ≠ .ok .skip w' := by
  simp only [execOp, h, Sem.run_bind]
  cases (resolve ρ c o.type).run P w <;> simp [Result.andThen]

variable {K : Act → World → Prop}
theorem GO.yield {d : Option Tmp} {op : Op} {ty : TypeId} {pos : String} {af : Array Edge} {g : Option (Nat × Bool)} {v : Value}
    (hw : Wt cx ops fr g true) (hy : Yl P cx fr Γ op ty v) (h : GK cx K (upd d v fr) Γ) : GO P cx ops Q ⟨d, op, ty, pos, af, g⟩ K fr Γ := fun a w s => by
  simp only [hw a d op ty pos af s.slots, if_true]
  have hr := hy a w d pos af g s
  refine wpIn_of_run (fun c hc => (exec_defer hc w w).1 v hr) ?_
  rw [hr]
  exact h _ _ (s.put d v s.heap (.refl w))
theorem GO.skip {d : Option Tmp} {op : Op} {ty : TypeId} {pos : String} {af : Array Edge} {g : Option (Nat × Bool)}
    (hw : Wt cx ops fr g false) (h : GK cx K (upd d undef fr) Γ) : GO P cx ops Q ⟨d, op, ty, pos, af, g⟩ K fr Γ := fun a w s => by
  simp only [hw a d op ty pos af s.slots, Bool.false_eq_true, if_false]
  exact h _ _ (s.put d undef s.heap (.refl w))

/-- Each value of a slot that is a bool: both ways. -/
theorem GK.split (t : Nat) (b : Bool) (hv : ev cx fr (.tmp t) = some (.bool b)) (h1 : b = true → GK cx K ((t, .bool true) :: fr) Γ) (h2 : b = false → GK cx K ((t, .bool false) :: fr) Γ) : GK cx K fr Γ := fun a w s => by
  have key : St cx ((t, .bool b) :: fr) Γ a w := by
    refine ⟨s.size, s.defers, ?_, s.heap, s.same⟩
    intro u x e hlt
    simp only [get, cond_eq_ite] at e
    split at e
    · rename_i he; have he : t = u := by simpa using he
      subst he; cases e
      simp only [Sl.ev, cond_eq_ite] at hv
      split at hv
      · exact s.slots t _ hv hlt
      · cases hv
    · exact s.slots u x e hlt
  cases b with
  | true => exact h1 rfl a w key
  | false => exact h2 rfl a w key

variable {ty : TypeId}
theorem Yl.move {x : Operand} {v : Value} (h : ev cx fr x = some v) : Yl P cx fr Γ (.move x) ty v := fun a w d pos af g s => by simp [execOp, s.eval h]
theorem Yl.assign {x : Operand} {v : Value} (h : ev cx fr x = some v) : Yl P cx fr Γ (.assign x) ty v := fun a w d pos af g s => by simp [execOp, s.eval h]
theorem Yl.pick_true {c x y : Operand} {v : Value} (hc : ev cx fr c = some (.bool true)) (h : ev cx fr x = some v) : Yl P cx fr Γ (.pick c x y) ty v := fun a w d pos af g s => by simp [execOp, s.eval h, s.eval hc, asBool]
theorem Yl.pick_false {c x y : Operand} {v : Value} (hc : ev cx fr c = some (.bool false)) (h : ev cx fr y = some v) : Yl P cx fr Γ (.pick c x y) ty v := fun a w d pos af g s => by simp [execOp, s.eval h, s.eval hc, asBool]
theorem Yl.pick {c x y : Operand} {b : Bool} {v u : Value} (hc : ev cx fr c = some (.bool b)) (h : ev cx fr x = some v) (h' : ev cx fr y = some u) : Yl P cx fr Γ (.pick c x y) ty (if b then v else u) := fun a w d pos af g s => by
  cases b <;> simp [execOp, s.eval h, s.eval h', s.eval hc, asBool]
theorem Yl.nilCheck {x : Operand} {p : Addr} (h : ev cx fr x = some (.pointer (some p))) : Yl P cx fr Γ (.nilCheck x) ty (.pointer (some p)) := fun a w d pos af g s => by simp [execOp, s.eval h]
theorem Yl.nilCheck_func {x : Operand} {f : FuncId} {u v : Array Value} (h : ev cx fr x = some (.func (.func f) u v)) : Yl P cx fr Γ (.nilCheck x) ty (.func (.func f) u v) := fun a w d pos af g s => by simp [execOp, s.eval h]

theorem Yl.extract {x : Operand} {i : Nat} {vs : Array Value} {v : Value} (h : ev cx fr x = some (.tuple vs)) (hi : vs[i]? = some v) : Yl P cx fr Γ (.extract x i) ty v := fun a w d pos af g s => by
  simp [execOp, s.eval h, Instr.extract, hi]

/-! ### integers -/
section ints
variable {x y : Operand} {k : IntKind} {m n : Int} {tx tz : TypeId}
theorem eqGuard_int {op : BinOp} {t : TypeId} {w : World} : (eqGuard op t x y (.int k m) (.int k n)).run P w = .ok () w := by
  unfold eqGuard; split <;> simp
theorem Yl.add (hx : ev cx fr x = some (.int k m)) (hy : ev cx fr y = some (.int k n)) : Yl P cx fr Γ (.binOp .add tx x y tz) ty (.int k (k.wrap (m + n))) := fun a w d pos af g s => by
  simp [execOp, s.eval hx, s.eval hy, eqGuard_int, binOp, Op.intArith]
theorem Yl.sub (hx : ev cx fr x = some (.int k m)) (hy : ev cx fr y = some (.int k n)) : Yl P cx fr Γ (.binOp .sub tx x y tz) ty (.int k (k.wrap (m - n))) := fun a w d pos af g s => by
  simp [execOp, s.eval hx, s.eval hy, eqGuard_int, binOp, Op.intArith]
theorem Yl.mul (hx : ev cx fr x = some (.int k m)) (hy : ev cx fr y = some (.int k n)) : Yl P cx fr Γ (.binOp .mul tx x y tz) ty (.int k (k.wrap (m * n))) := fun a w d pos af g s => by
  simp [execOp, s.eval hx, s.eval hy, eqGuard_int, binOp, Op.intArith]
theorem Yl.quo (hx : ev cx fr x = some (.int k m)) (hy : ev cx fr y = some (.int k n)) (h0 : n ≠ 0) : Yl P cx fr Γ (.binOp .quo tx x y tz) ty (.int k (k.wrap (m.tdiv n))) := fun a w d pos af g s => by
  simp [execOp, s.eval hx, s.eval hy, eqGuard_int, binOp, Op.intDiv, h0]
theorem Yl.rem (hx : ev cx fr x = some (.int k m)) (hy : ev cx fr y = some (.int k n)) (h0 : n ≠ 0) : Yl P cx fr Γ (.binOp .rem tx x y tz) ty (.int k (m.tmod n)) := fun a w d pos af g s => by
  simp [execOp, s.eval hx, s.eval hy, eqGuard_int, binOp, Op.intDiv, h0]
/-- The plain forms: no wrap where the sum is in range. -/
theorem Yl.add64 {m n : Int} (hx : ev cx fr x = some (.int .i64 m)) (hy : ev cx fr y = some (.int .i64 n)) (h : -9223372036854775808 ≤ m + n ∧ m + n ≤ 9223372036854775807) : Yl P cx fr Γ (.binOp .add tx x y tz) ty (.int .i64 (m + n)) := by
  have := Yl.add (P := P) (Γ := Γ) (ty := ty) (tx := tx) (tz := tz) hx hy; rwa [IntWalk.i64_in _ h] at this
theorem Yl.sub64 {m n : Int} (hx : ev cx fr x = some (.int .i64 m)) (hy : ev cx fr y = some (.int .i64 n)) (h : -9223372036854775808 ≤ m - n ∧ m - n ≤ 9223372036854775807) : Yl P cx fr Γ (.binOp .sub tx x y tz) ty (.int .i64 (m - n)) := by
  have := Yl.sub (P := P) (Γ := Γ) (ty := ty) (tx := tx) (tz := tz) hx hy; rwa [IntWalk.i64_in _ h] at this
theorem Yl.mul64 {m n : Int} (hx : ev cx fr x = some (.int .i64 m)) (hy : ev cx fr y = some (.int .i64 n)) (h : -9223372036854775808 ≤ m * n ∧ m * n ≤ 9223372036854775807) : Yl P cx fr Γ (.binOp .mul tx x y tz) ty (.int .i64 (m * n)) := by
  have := Yl.mul (P := P) (Γ := Γ) (ty := ty) (tx := tx) (tz := tz) hx hy; rwa [IntWalk.i64_in _ h] at this
theorem Yl.lss (hx : ev cx fr x = some (.int k m)) (hy : ev cx fr y = some (.int k n)) : Yl P cx fr Γ (.binOp .lss tx x y tz) ty (.bool (decide (m < n))) := fun a w d pos af g s => by
  simp [execOp, s.eval hx, s.eval hy, eqGuard_int, binOp, Op.intCmp]
theorem Yl.leq (hx : ev cx fr x = some (.int k m)) (hy : ev cx fr y = some (.int k n)) : Yl P cx fr Γ (.binOp .leq tx x y tz) ty (.bool (decide (m ≤ n))) := fun a w d pos af g s => by
  simp [execOp, s.eval hx, s.eval hy, eqGuard_int, binOp, Op.intCmp]
theorem Yl.gtr (hx : ev cx fr x = some (.int k m)) (hy : ev cx fr y = some (.int k n)) : Yl P cx fr Γ (.binOp .gtr tx x y tz) ty (.bool (decide (n < m))) := fun a w d pos af g s => by
  simp [execOp, s.eval hx, s.eval hy, eqGuard_int, binOp, Op.intCmp]
theorem Yl.geq (hx : ev cx fr x = some (.int k m)) (hy : ev cx fr y = some (.int k n)) : Yl P cx fr Γ (.binOp .geq tx x y tz) ty (.bool (decide (n ≤ m))) := fun a w d pos af g s => by
  simp [execOp, s.eval hx, s.eval hy, eqGuard_int, binOp, Op.intCmp]
theorem Yl.eql (hx : ev cx fr x = some (.int k m)) (hy : ev cx fr y = some (.int k n)) : Yl P cx fr Γ (.binOp .eql tx x y tz) ty (.bool (decide (m = n))) := fun a w d pos af g s => by
  simp [execOp, s.eval hx, s.eval hy, eqGuard_int, binOp, Op.intCmp]; rfl
theorem Yl.neq (hx : ev cx fr x = some (.int k m)) (hy : ev cx fr y = some (.int k n)) : Yl P cx fr Γ (.binOp .neq tx x y tz) ty (.bool (!decide (m = n))) := fun a w d pos af g s => by
  simp [execOp, s.eval hx, s.eval hy, eqGuard_int, binOp, Op.intCmp]; rfl
theorem Yl.bits {op : BinOp} (ho : op = .and ∨ op = .or ∨ op = .xor ∨ op = .andNot) (hx : ev cx fr x = some (.int k m)) (hy : ev cx fr y = some (.int k n)) {v : Int}
    (hv : (Op.intBits op k m n) = pure (.int k v)) : Yl P cx fr Γ (.binOp op tx x y tz) ty (.int k v) := fun a w d pos af g s => by
  rcases ho with rfl | rfl | rfl | rfl <;> simp [execOp, s.eval hx, s.eval hy, eqGuard_int, binOp, hv]
theorem Yl.shl {j : IntKind} (hx : ev cx fr x = some (.int k m)) (hy : ev cx fr y = some (.int j n)) (h : 0 ≤ n) : Yl P cx fr Γ (.binOp .shl tx x y tz) ty (.int k (k.wrap (m * 2 ^ min n.toNat k.bits))) := fun a w d pos af g s => by
  have : ¬ n < 0 := by omega
  simp [execOp, s.eval hx, s.eval hy, eqGuard, binOp, Op.shift, this]
theorem Yl.shr {j : IntKind} (hx : ev cx fr x = some (.int k m)) (hy : ev cx fr y = some (.int j n)) (h : 0 ≤ n) : Yl P cx fr Γ (.binOp .shr tx x y tz) ty (.int k (m.fdiv (2 ^ min n.toNat k.bits))) := fun a w d pos af g s => by
  have : ¬ n < 0 := by omega
  simp [execOp, s.eval hx, s.eval hy, eqGuard, binOp, Op.shift, this]
theorem Yl.neg (hx : ev cx fr x = some (.int k m)) : Yl P cx fr Γ (.unOp .neg tx x) ty (.int k (k.wrap (0 - m))) := fun a w d pos af g s => by
  simp [execOp, s.eval hx, Op.unary, Op.intArith]
theorem Yl.not {b : Bool} (hx : ev cx fr x = some (.bool b)) : Yl P cx fr Γ (.unOp .not tx x) ty (.bool (!b)) := fun a w d pos af g s => by
  simp [execOp, s.eval hx, Op.unary]
theorem Yl.convInt {ts td : TypeId} {ds : TypeDesc} {k' : IntKind} (hs : P.underlying ts = some ds) (hd : P.underlying td = some (.int k')) (hx : ev cx fr x = some (.int k m)) :
    Yl P cx fr Γ (.convert ts td x) ty (.int k' (k'.wrap m)) := fun a w d pos af g s => by
  simp [execOp, s.eval hx, convert, run_underlying hs, run_underlying hd, Conv.intToInt]
end ints

/-! ### bools, pointers, strings -/
section rel
variable {x y : Operand} {tx tz : TypeId}
theorem run_equal_bool {t : TypeId} {b c : Bool} {w : World} (ht : P.underlying t = some .bool) : (Op.equal t (.bool b) (.bool c)).run P w = .ok (b == c) w := by
  have h : ∀ d, (Op.equalIn (d + 1) t (.bool b) (.bool c)).run P w = .ok (b == c) w := fun d => by simp [Op.equalIn, run_underlying ht]
  exact h 9999
theorem Yl.eql_bool {b c : Bool} (ht : P.underlying tx = some .bool) (hx : ev cx fr x = some (.bool b)) (hy : ev cx fr y = some (.bool c)) : Yl P cx fr Γ (.binOp .eql tx x y tz) ty (.bool (b == c)) := fun a w d pos af g s => by
  simp [execOp, s.eval hx, s.eval hy, eqGuard, binOp, run_equal_bool ht]
theorem Yl.neq_bool {b c : Bool} (ht : P.underlying tx = some .bool) (hx : ev cx fr x = some (.bool b)) (hy : ev cx fr y = some (.bool c)) : Yl P cx fr Γ (.binOp .neq tx x y tz) ty (.bool (!(b == c))) := fun a w d pos af g s => by
  simp [execOp, s.eval hx, s.eval hy, eqGuard, binOp, run_equal_bool ht]
theorem run_equal_nil_ptr {t e : TypeId} {p : Option Addr} {w : World} (ht : P.underlying t = some (.pointer e)) : (Op.equal t (.pointer p) (.pointer none)).run P w = .ok p.isNone w := by
  have h : ∀ d, (Op.equalIn (d + 1) t (.pointer p) (.pointer none)).run P w = .ok p.isNone w := fun d => by cases p <;> simp [Op.equalIn, run_underlying ht]
  exact h 9999
theorem run_equal_nil_map {t k e : TypeId} {p : Option Nat} {w : World} (ht : P.underlying t = some (.map k e)) : (Op.equal t (.map p) (.map none)).run P w = .ok p.isNone w := by
  have h : ∀ d, (Op.equalIn (d + 1) t (.map p) (.map none)).run P w = .ok p.isNone w := fun d => by cases p <;> simp [Op.equalIn, run_underlying ht]
  exact h 9999
theorem run_equal_nil_slice {t e : TypeId} {p : Option Addr} {n c : Nat} {w : World} (ht : P.underlying t = some (.slice e)) : (Op.equal t (.slice p n c) (.slice none 0 0)).run P w = .ok p.isNone w := by
  have h : ∀ d, (Op.equalIn (d + 1) t (.slice p n c) (.slice none 0 0)).run P w = .ok p.isNone w := fun d => by cases p <;> simp [Op.equalIn, run_underlying ht]
  exact h 9999
theorem Yl.eql_ptr {e : TypeId} {p : Option Addr} (ht : P.underlying tx = some (.pointer e)) (hx : ev cx fr x = some (.pointer p)) (hy : ev cx fr y = some (.pointer none)) : Yl P cx fr Γ (.binOp .eql tx x y tz) ty (.bool p.isNone) := fun a w d pos af g s => by
  simp [execOp, s.eval hx, s.eval hy, eqGuard, binOp, run_equal_nil_ptr ht]
theorem Yl.neq_ptr {e : TypeId} {p : Option Addr} (ht : P.underlying tx = some (.pointer e)) (hx : ev cx fr x = some (.pointer p)) (hy : ev cx fr y = some (.pointer none)) : Yl P cx fr Γ (.binOp .neq tx x y tz) ty (.bool (!p.isNone)) := fun a w d pos af g s => by
  simp [execOp, s.eval hx, s.eval hy, eqGuard, binOp, run_equal_nil_ptr ht]
theorem Yl.eql_map {k e : TypeId} {p : Option Nat} (ht : P.underlying tx = some (.map k e)) (hx : ev cx fr x = some (.map p)) (hy : ev cx fr y = some (.map none)) : Yl P cx fr Γ (.binOp .eql tx x y tz) ty (.bool p.isNone) := fun a w d pos af g s => by
  simp [execOp, s.eval hx, s.eval hy, eqGuard, binOp, run_equal_nil_map ht]
theorem Yl.neq_map {k e : TypeId} {p : Option Nat} (ht : P.underlying tx = some (.map k e)) (hx : ev cx fr x = some (.map p)) (hy : ev cx fr y = some (.map none)) : Yl P cx fr Γ (.binOp .neq tx x y tz) ty (.bool (!p.isNone)) := fun a w d pos af g s => by
  simp [execOp, s.eval hx, s.eval hy, eqGuard, binOp, run_equal_nil_map ht]

theorem Yl.eql_sl {e : TypeId} {p : Option Addr} {n c : Nat} (ht : P.underlying tx = some (.slice e)) (hx : ev cx fr x = some (.slice p n c)) (hy : ev cx fr y = some (.slice none 0 0)) : Yl P cx fr Γ (.binOp .eql tx x y tz) ty (.bool p.isNone) := fun a w d pos af g s => by
  simp [execOp, s.eval hx, s.eval hy, eqGuard, binOp, run_equal_nil_slice ht]
theorem Yl.neq_sl {e : TypeId} {p : Option Addr} {n c : Nat} (ht : P.underlying tx = some (.slice e)) (hx : ev cx fr x = some (.slice p n c)) (hy : ev cx fr y = some (.slice none 0 0)) : Yl P cx fr Γ (.binOp .neq tx x y tz) ty (.bool (!p.isNone)) := fun a w d pos af g s => by
  simp [execOp, s.eval hx, s.eval hy, eqGuard, binOp, run_equal_nil_slice ht]

/-- A string of these bytes. -/
abbrev str (l : List UInt8) : Value := .string ⟨⟨l⟩⟩
theorem ba_toList (l : List UInt8) : ByteArray.toList ⟨⟨l⟩⟩ = l := by
  rw [ByteArray.toList_eq]
theorem Yl.strop {op : BinOp} {p q : List UInt8} {b : Bool} (ho : op = .eql ∨ op = .neq ∨ op = .lss ∨ op = .leq ∨ op = .gtr ∨ op = .geq) (hx : ev cx fr x = some (str p)) (hy : ev cx fr y = some (str q))
    (hb : (Op.stringOp op ⟨⟨p⟩⟩ ⟨⟨q⟩⟩) = pure (.bool b)) : Yl P cx fr Γ (.binOp op tx x y tz) ty (.bool b) := fun a w d pos af g s => by
  rcases ho with rfl | rfl | rfl | rfl | rfl | rfl <;> simp [execOp, s.eval hx, s.eval hy, eqGuard, binOp, hb]
theorem Yl.eql_str {p q : List UInt8} (hx : ev cx fr x = some (str p)) (hy : ev cx fr y = some (str q)) : Yl P cx fr Γ (.binOp .eql tx x y tz) ty (.bool (p == q)) :=
  Yl.strop (by simp) hx hy (by simp [Op.stringOp])
theorem Yl.neq_str {p q : List UInt8} (hx : ev cx fr x = some (str p)) (hy : ev cx fr y = some (str q)) : Yl P cx fr Γ (.binOp .neq tx x y tz) ty (.bool (!(p == q))) :=
  Yl.strop (by simp) hx hy (by simp [Op.stringOp])
theorem Yl.lss_str {p q : List UInt8} (hx : ev cx fr x = some (str p)) (hy : ev cx fr y = some (str q)) : Yl P cx fr Γ (.binOp .lss tx x y tz) ty (.bool (Op.bytesLess p q)) :=
  Yl.strop (by simp) hx hy (by simp [Op.stringOp])
theorem Yl.leq_str {p q : List UInt8} (hx : ev cx fr x = some (str p)) (hy : ev cx fr y = some (str q)) : Yl P cx fr Γ (.binOp .leq tx x y tz) ty (.bool (Op.bytesLess p q || p == q)) :=
  Yl.strop (by simp) hx hy (by simp [Op.stringOp])
theorem Yl.gtr_str {p q : List UInt8} (hx : ev cx fr x = some (str p)) (hy : ev cx fr y = some (str q)) : Yl P cx fr Γ (.binOp .gtr tx x y tz) ty (.bool (!(Op.bytesLess p q || p == q))) :=
  Yl.strop (by simp) hx hy (by simp [Op.stringOp])
theorem Yl.geq_str {p q : List UInt8} (hx : ev cx fr x = some (str p)) (hy : ev cx fr y = some (str q)) : Yl P cx fr Γ (.binOp .geq tx x y tz) ty (.bool (!Op.bytesLess p q)) :=
  Yl.strop (by simp) hx hy (by simp [Op.stringOp])
theorem ba_size (p : List UInt8) : ByteArray.size ⟨⟨p⟩⟩ = p.length := rfl
theorem ba_append (p q : List UInt8) : (⟨⟨p⟩⟩ : ByteArray) ++ ⟨⟨q⟩⟩ = ⟨⟨p ++ q⟩⟩ := by
  apply ByteArray.ext
  simp
theorem Yl.cat {p q : List UInt8} (hx : ev cx fr x = some (str p)) (hy : ev cx fr y = some (str q)) (h : p.length + q.length ≤ 9223372036854775807) : Yl P cx fr Γ (.binOp .add tx x y tz) ty (str (p ++ q)) := fun a w d pos af g s => by
  have h2 : ¬ (IntKind.i64.max < (p.length : Int) + (q.length : Int)) := by have : IntKind.i64.max = 9223372036854775807 := rfl; omega
  simp [execOp, s.eval hx, s.eval hy, eqGuard, binOp, Op.stringOp, ba_append, ba_size]
  omega
theorem Yl.convStr {ts td : TypeId} {ds : TypeDesc} {p : List UInt8} (hs : P.underlying ts = some ds) (hd : P.underlying td = some .string) (hx : ev cx fr x = some (str p)) : Yl P cx fr Γ (.convert ts td x) ty (str p) := fun a w d pos af g s => by
  simp [execOp, s.eval hx, convert, run_underlying hs, run_underlying hd]
theorem Yl.len_str {p : List UInt8} {t : TypeId} (ht : P.underlying t = some .string) (hx : ev cx fr x = some (str p)) : Yl P cx fr Γ (.call ⟨.builtin .len, #[x], #[t]⟩) ty (.int .i64 p.length) := fun a w d pos af g s => by
  simp [execOp, resolve, invoke, builtin, Builtin.len_, s.eval hx, run_underlying ht, goInt, ba_size]
theorem Yl.len_slice {p : Option Addr} {n c : Nat} {t e : TypeId} (ht : P.underlying t = some (.slice e)) (hx : ev cx fr x = some (.slice p n c)) : Yl P cx fr Γ (.call ⟨.builtin .len, #[x], #[t]⟩) ty (.int .i64 n) := fun a w d pos af g s => by
  simp [execOp, resolve, invoke, builtin, Builtin.len_, s.eval hx, run_underlying ht, goInt]
theorem Yl.index_str {p : List UInt8} {t : TypeId} {i : Int} {c : UInt8} {k : IntKind} (ht : P.underlying t = some .string) (hx : ev cx fr x = some (str p)) (hy : ev cx fr y = some (.int k i)) (h0 : 0 ≤ i) (hc : p[i.toNat]? = some c) : Yl P cx fr Γ (.index t x y) ty (.int .u8 c.toNat) := fun a w d pos af g s => by
  have hg : (⟨⟨p⟩⟩ : ByteArray)[i.toNat]? = some c := by
    have hlt : i.toNat < p.length := (List.getElem?_eq_some_iff.1 hc).1
    have hlt' : i.toNat < (⟨⟨p⟩⟩ : ByteArray).size := by simpa [ByteArray.size] using hlt
    rw [getElem?_pos (⟨⟨p⟩⟩ : ByteArray) i.toNat hlt']
    have := (List.getElem?_eq_some_iff.1 hc).2
    rw [← this]; rfl
  simp [execOp, s.eval hx, s.eval hy, Instr.index, asIntOf, run_underlying ht, h0, hg]
end rel
end Go.Sl
