/- The engine, part F: the program's types as tables; operations by them; appends, slices, conversions. -/
import Derived.Test.YtabbonafljochaaGreatDoorEnE
import Derived.KernelRfl
namespace Go.Sl
def lookT : List (Nat × Nat × Nat × Bool) → Nat → Option (Nat × Nat × Bool)
  | [], _ => none
  | (k, x) :: r, t => bif Nat.beq k t then some x else lookT r t
def lookF : List (Nat × Nat × Nat × Nat × Nat) → Nat → Nat → Option (Nat × Nat × Nat)
  | [], _, _ => none
  | (k, f, x) :: r, t, g => bif Nat.beq k t && Nat.beq f g then some x else lookF r t g
def okT (P : Program) (T : List (Nat × Nat × Nat × Bool)) : Bool := T.all fun x => tsize P x.1 == some x.2.1 && tbytes P x.1 == some x.2.2.1 && isRow P x.1 == some x.2.2.2
def okF (P : Program) (T : List (Nat × Nat × Nat × Nat × Nat)) : Bool := T.all fun x => fieldInfo P x.1 x.2.1 == some (x.2.2.1, x.2.2.2.1) && tsize P x.2.2.2.1 == some x.2.2.2.2
def okZ (P : Program) (T : List (Nat × Nat × Nat × Bool)) (Z : List Nat) : Bool := Z.all fun t => match zeroL P t, lookT T t with
  | some l, some x => Nat.beq l.length x.1
  | _, _ => false
structure Tbl (P : Program) where
  T : List (Nat × Nat × Nat × Bool)
  F : List (Nat × Nat × Nat × Nat × Nat)
  Z : List Nat
  hT : okT P T = true
  hF : okF P F = true
  hZ : okZ P T Z = true
def inZ : List Nat → Nat → Bool
  | [], _ => false
  | k :: r, t => Nat.beq k t || inZ r t
theorem inZ_mem : ∀ {Z : List Nat} {t : Nat}, inZ Z t = true → t ∈ Z
  | k :: r, t, h => by
    simp only [inZ, Bool.or_eq_true] at h
    rcases h with h | h
    · have := Nat.eq_of_beq_eq_true h; subst this; exact .head _
    · exact .tail _ (inZ_mem h)
theorem lookT_mem : ∀ {T : List (Nat × Nat × Nat × Bool)} {t : Nat} {x : Nat × Nat × Bool}, lookT T t = some x → (t, x) ∈ T
  | (k, y) :: r, t, x, h => by
    simp only [lookT, cond_eq_ite] at h
    split at h
    · rename_i e; have e := Nat.eq_of_beq_eq_true e; cases h; subst e; exact .head _
    · exact .tail _ (lookT_mem h)
theorem lookF_mem : ∀ {T : List (Nat × Nat × Nat × Nat × Nat)} {t g : Nat} {x : Nat × Nat × Nat}, lookF T t g = some x → (t, g, x) ∈ T
  | (k, f, y) :: r, t, g, x, h => by
    simp only [lookF, cond_eq_ite] at h
    split at h
    · rename_i e
      simp only [Bool.and_eq_true] at e
      have e1 := Nat.eq_of_beq_eq_true e.1
      have e2 := Nat.eq_of_beq_eq_true e.2
      cases h; subst e1; subst e2; exact .head _
    · exact .tail _ (lookF_mem h)
variable {P : Program} {cx : Cx} {fr : Fr} {Γ : List HProp} {Q : Exit → Act → World → Prop} {ops : Array Oper} {ty : TypeId} {K : Act → World → Prop}
theorem Tbl.t (tb : Tbl P) {t s b : Nat} {r : Bool} (h : lookT tb.T t = some (s, b, r)) : tsize P t = some s ∧ tbytes P t = some b ∧ isRow P t = some r := by
  have := List.all_eq_true.1 tb.hT _ (lookT_mem h)
  simpa [and_assoc] using this
theorem Tbl.f (tb : Tbl P) {s f o u z : Nat} (h : lookF tb.F s f = some (o, u, z)) : fieldInfo P s f = some (o, u) ∧ tsize P u = some z := by
  have := List.all_eq_true.1 tb.hF _ (lookF_mem h)
  simpa using this

theorem Tbl.z (tb : Tbl P) {t s b : Nat} {r : Bool} (h : lookT tb.T t = some (s, b, r)) (hz : inZ tb.Z t = true) : ∃ zl, zeroL P t = some zl ∧ zl.length = s := by
  have := List.all_eq_true.1 tb.hZ _ (inZ_mem hz)
  rw [h] at this
  cases hl : zeroL P t with
  | none => simp [hl] at this
  | some l => simp only [hl] at this; exact ⟨l, rfl, Nat.eq_of_beq_eq_true this⟩

section
variable {r : Bool} {x y : Operand} {b o off n z u by' : Nat} {l A l' : List Value} {e t s : TypeId} {fz : Nat × Nat} {v : Value}
theorem Yt.fieldAddr (tb : Tbl P) {f : Nat} (hf : lookF tb.F s f = some (off, u, n + 1)) (hx : ev cx fr x = some (.pointer (some ⟨b, o, none⟩))) : Yl P cx fr Γ (.fieldAddr s x f) ty (.pointer (some ⟨b, o + off, none⟩)) :=
  Yl.fieldAddr (tb.f hf).1 (tb.f hf).2 hx
theorem Yt.load (tb : Tbl P) (ht : lookT tb.T t = some (z, by', false)) (hx : ev cx fr x = some (.pointer (some ⟨b, o, none⟩))) (hr : Rd Γ cx.hF b (.cells ⟨l⟩ e fz)) (hv : l[o]? = some v) : Yl P cx fr Γ (.load t x) ty v :=
  Yl.load (tb.t ht).2.2 hx hr hv
theorem Yt.loadRow (tb : Tbl P) (ht : lookT tb.T t = some (z, by', true)) (hx : ev cx fr x = some (.pointer (some ⟨b, o, none⟩))) (hr : Rd Γ cx.hF b (.cells ⟨l⟩ e fz)) (hA : At l o A) (hz : A.length = z) : Yl P cx fr Γ (.load t x) ty (.agg ⟨A⟩) :=
  Yl.loadRow (tb.t ht).2.2 (by rw [hz]; exact (tb.t ht).1) hx hr hA
/-- A row that is known cell by cell. -/
theorem Yt.loadLit (tb : Tbl P) (ht : lookT tb.T t = some (z, by', true)) (hx : ev cx fr x = some (.pointer (some ⟨b, o, none⟩))) (hr : Rd Γ cx.hF b (.cells ⟨l⟩ e fz)) (hA : (l.drop o).take z = A) (hz : Nat.beq A.length z = true) : Yl P cx fr Γ (.load t x) ty (.agg ⟨A⟩) :=
  Yt.loadRow tb ht hx hr (.of_take hA) (Nat.eq_of_beq_eq_true hz)
theorem Yt.field (tb : Tbl P) {f : Nat} (hf : lookF tb.F s f = some (off, u, n)) (hu : lookT tb.T u = some (z, by', false)) (hx : ev cx fr x = some (.agg ⟨l⟩)) (hv : l[off]? = some v) : Yl P cx fr Γ (.field s x f) ty v :=
  Yl.field (tb.f hf).1 (tb.t hu).2.2 hx hv
theorem Yt.fieldRow (tb : Tbl P) {f : Nat} (hf : lookF tb.F s f = some (off, u, n)) (hu : lookT tb.T u = some (z, by', true)) (hx : ev cx fr x = some (.agg ⟨l⟩)) (hA : (l.drop off).take n = A) : Yl P cx fr Γ (.field s x f) ty (.agg ⟨A⟩) :=
  Yl.fieldRow (tb.f hf).1 (tb.t hu).2.2 (tb.f hf).2 hx hA
theorem Yt.indexAddr (tb : Tbl P) {i : Int} {k : IntKind} {c : Nat} (ht : P.underlying t = some (.slice e)) (hs : lookT tb.T e = some (z, by', r)) (hx : ev cx fr x = some (.slice (some ⟨b, o, none⟩) n c)) (hy : ev cx fr y = some (.int k i)) (h : 0 ≤ i ∧ i < n) :
    Yl P cx fr Γ (.indexAddr t x y) ty (.pointer (some ⟨b, o + i.toNat * z, none⟩)) := Yl.indexAddr ht (tb.t hs).1 hx hy h
theorem Yt.indexAddr_arr (tb : Tbl P) {i : Int} {k : IntKind} (ht : P.underlying t = some (.array n e)) (hs : lookT tb.T e = some (z, by', r)) (hx : ev cx fr x = some (.pointer (some ⟨b, o, none⟩))) (hy : ev cx fr y = some (.int k i)) (h : 0 ≤ i ∧ i < n) :
    Yl P cx fr Γ (.indexAddr t x y) ty (.pointer (some ⟨b, o + i.toNat * z, none⟩)) := Yl.indexAddr_arr ht (tb.t hs).1 hx hy h
theorem Yt.index_arr (tb : Tbl P) {i : Int} {k : IntKind} (ht : P.underlying t = some (.array n e)) (hs : lookT tb.T e = some (z, by', false)) (hx : ev cx fr x = some (.agg ⟨l⟩)) (hy : ev cx fr y = some (.int k i)) (h : 0 ≤ i ∧ i < n) (hv : l[i.toNat * z]? = some v) :
    Yl P cx fr Γ (.index t x y) ty v := Yl.index_arr ht (tb.t hs).2.2 (tb.t hs).1 hx hy h hv
variable {d : Option Tmp} {pos : String} {af : Array Edge} {g : Option (Nat × Bool)}
theorem Gt.allocAny (tb : Tbl P) (hw : Wt cx ops fr g true) (ht : lookT tb.T t = some (z, by', r)) (hz : inZ tb.Z t = true)
    (h : ∀ b l, l.length = z → GK cx K (upd d (.pointer (some ⟨b, 0, none⟩)) fr) (blk b t (0, 0) l :: Γ)) : GO P cx ops Q ⟨d, .alloc t, ty, pos, af, g⟩ K fr Γ := by
  obtain ⟨l, hl, hn⟩ := tb.z ht hz
  exact GO.alloc hw hl fun b => h b l hn
theorem Gt.store (tb : Tbl P) (i : Nat) (hw : Wt cx ops fr g true) (hs : lookT tb.T t = some (1, by', r)) (hx : ev cx fr x = some (.pointer (some ⟨b, o, none⟩))) (hy : ev cx fr y = some v)
    (h1 : v.oneCell' = true) (hi : Γ[i]? = some (blk b e fz l)) (hlt : Nat.blt o l.length = true) (hf : free fz o 1 = true) (hl : l.set o v = l')
    (h : GK cx K (upd d undef fr) (Γ.set i (blk b e fz l'))) : GO P cx ops Q ⟨d, .store t x y, ty, pos, af, g⟩ K fr Γ := GO.store i hw (tb.t hs).1 hx hy h1 hi hlt hf hl h
theorem Gt.storeRow (tb : Tbl P) (i : Nat) (hw : Wt cx ops fr g true) (hs : lookT tb.T t = some (z, by', r)) (hx : ev cx fr x = some (.pointer (some ⟨b, o, none⟩))) (hy : ev cx fr y = some (.agg ⟨A⟩)) (hz : A.length = z)
    (h1 : ∀ u ∈ A, u.oneCell' = true) (hi : Γ[i]? = some (blk b e fz l)) (hlt : o + A.length ≤ l.length) (hf : free fz o A.length = true) (hl : splice l o A = l')
    (h : GK cx K (upd d undef fr) (Γ.set i (blk b e fz l'))) : GO P cx ops Q ⟨d, .store t x y, ty, pos, af, g⟩ K fr Γ := GO.storeRow i hw (by rw [hz]; exact (tb.t hs).1) hx hy h1 hi hlt hf hl h
/-- A row stored over a whole block. -/
theorem Gt.storeAll (tb : Tbl P) (i : Nat) (hw : Wt cx ops fr g true) (hs : lookT tb.T t = some (z, by', r)) (hx : ev cx fr x = some (.pointer (some ⟨b, 0, none⟩))) (hy : ev cx fr y = some (.agg ⟨A⟩)) (hz : A.length = z)
    (h1 : ∀ u ∈ A, u.oneCell' = true) (hi : Γ[i]? = some (blk b e (0, 0) l)) (hlt : l.length = A.length)
    (h : GK cx K (upd d undef fr) (Γ.set i (blk b e (0, 0) A))) : GO P cx ops Q ⟨d, .store t x y, ty, pos, af, g⟩ K fr Γ :=
  Gt.storeRow tb i hw hs hx hy hz h1 hi (by omega) (by simp [free]) (by simp [splice, hlt]) h
end

theorem Rd.blk {hF : Hp} {b : Nat} {l : List Value} {e : TypeId} {fz : Nat × Nat} (i : Nat) (h : Γ[i]? = some (blk b e fz l)) : Rd Γ hF b (.cells ⟨l⟩ e fz) := Rd.own i h

/-- Some of the chunks alone. -/
theorem Sat.sel {hF : Hp} {w : World} {x z : List HProp} (sel : List Nat) (h : takes sel Γ = some (x, z)) (s : Sat Γ hF w) : Sat x hF w := by
  have := s.perm (takes_perm h)
  obtain ⟨hs, a, q, c, d⟩ := this
  obtain ⟨ks, ls, rfl, h1, _⟩ := a.split
  rw [Apart_iff] at q
  exact ⟨ks, h1, by rw [Apart_iff]; exact ⟨fun k hk => q.1 k (by simp [hk]), (List.pairwise_append.1 q.2).1⟩, c, fun k hk => d k (by simp [hk])⟩
/-- The chunks in another order, some of them let go. -/
theorem GK.sel {x z : List HProp} (sel : List Nat) (h : takes sel Γ = some (x, z)) (k : GK cx K fr x) : GK cx K fr Γ := GK.heap (fun _ s => s.sel sel h) k
theorem Yt.arrayPtr {x : Operand} {t e n m c : Nat} {p : Option Addr} (ht : P.underlying t = some (.array n e)) (hx : ev cx fr x = some (.slice p m c)) (h : n ≤ m) : Yl P cx fr Γ (.sliceToArrayPointer t x) ty (.pointer p) := fun a w d pos af g st => by
  have : ¬ m < n := by omega
  simp [execOp, Instr.arrayAt, st.eval hx, run_underlying ht, this]

/-! ### what the operations ask, by kind (so that a walk looks at one group alone) -/
section kinds
variable {d : Option Tmp} {pos : String} {af : Array Edge} {g : Option (Nat × Bool)}
theorem Is.binOp {op : BinOp} {t u : TypeId} {x y : Operand} (h : GO P cx ops Q ⟨d, .binOp op t x y u, ty, pos, af, g⟩ K fr Γ) : GO P cx ops Q ⟨d, .binOp op t x y u, ty, pos, af, g⟩ K fr Γ := h
theorem Is.builtin {b : Builtin} {xs : Array Operand} {ts : Array TypeId} (h : GO P cx ops Q ⟨d, .call ⟨.builtin b, xs, ts⟩, ty, pos, af, g⟩ K fr Γ) : GO P cx ops Q ⟨d, .call ⟨.builtin b, xs, ts⟩, ty, pos, af, g⟩ K fr Γ := h
theorem Is.load {t : TypeId} {x : Operand} (h : GO P cx ops Q ⟨d, .load t x, ty, pos, af, g⟩ K fr Γ) : GO P cx ops Q ⟨d, .load t x, ty, pos, af, g⟩ K fr Γ := h
theorem Is.store {t : TypeId} {x y : Operand} (h : GO P cx ops Q ⟨d, .store t x y, ty, pos, af, g⟩ K fr Γ) : GO P cx ops Q ⟨d, .store t x y, ty, pos, af, g⟩ K fr Γ := h
theorem Is.code {c : Code} (h : G P cx c Q fr Γ) : G P cx c Q fr Γ := h
theorem Is.list {l : List Oper} (h : GL P cx ops l Q fr Γ) : GL P cx ops l Q fr Γ := h
end kinds
end Go.Sl
