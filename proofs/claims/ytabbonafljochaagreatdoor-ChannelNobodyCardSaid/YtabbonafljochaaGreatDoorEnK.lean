/- The engine, part K: bits of bytes; a literal's bytes. -/
import Derived.Test.YtabbonafljochaaGreatDoorEnJ
namespace Go.Sl
variable {P : Program} {cx : Cx} {fr : Fr} {Γ : List HProp} {ty : TypeId} {x y : Operand} {tx tz : TypeId}
theorem Yl.xor8 {a b : UInt8} (hx : ev cx fr x = some (.int .u8 a.toNat)) (hy : ev cx fr y = some (.int .u8 b.toNat)) : Yl P cx fr Γ (.binOp .xor tx x y tz) ty (.int .u8 (a ^^^ b).toNat) := by
  refine Yl.bits (.inr (.inr (.inl rfl))) hx hy ?_
  have h : ∀ c : UInt8, BitVec.ofInt 8 (c.toNat : Int) = c.toBitVec := fun c => by
    apply BitVec.eq_of_toNat_eq
    simp
  show (pure (Value.int .u8 (IntKind.u8.wrap ((BitVec.ofInt 8 (a.toNat : Int) ^^^ BitVec.ofInt 8 (b.toNat : Int)).toNat : Int))) : Sem Value) = _
  rw [h, h]
  have h1 : (a.toBitVec ^^^ b.toBitVec).toNat = (a ^^^ b).toNat := rfl
  rw [h1]
  have h2 : (a ^^^ b).toNat < 256 := (a ^^^ b).toNat_lt
  have h3 : IntKind.u8.wrap ((a ^^^ b).toNat : Int) = (a ^^^ b).toNat := by
    generalize (a ^^^ b).toNat = n at h2
    simp only [IntKind.wrap, IntKind.bits, IntKind.signed]
    simp
    omega
  rw [h3]
variable {Q : Exit → Act → World → Prop} {ops : Array Oper} {K : Act → World → Prop} {d : Option Tmp} {pos : String} {af : Array Edge} {g : Option (Nat × Bool)} {t e e' : TypeId} {b n c : Nat} {l : List Value}
/-- []byte of a constant: the literal's row gets its mark. -/
theorem GO.convBytes (i : Nat) (hw : Wt cx ops fr g true) (ht : P.underlying t = some (.slice e)) (he : P.underlying e = some (.int .u8)) (hx : ev cx fr x = some (.slice (some ⟨b, 0, none⟩) n c)) (hi : Γ[i]? = some (blk b e' (0, 0) l))
    (h : GK cx K (upd d (.slice (some ⟨b, 0, none⟩) n c) fr) (Γ.set i (blk b e' (l.length, l.length + 1) l))) : GO P cx ops Q ⟨d, .convert t t x, ty, pos, af, g⟩ K fr Γ := by
  refine GO.effect hw (Φ := fun q Γ' => q = .slice (some ⟨b, 0, none⟩) n c ∧ Γ' = Γ.set i (blk b e' (l.length, l.length + 1) l)) (fun a w d pos af g st => ?_) ?_
  · have hb := (Rd.own i hi) w st.heap
    have hsh : w.shape? b = some (e', l.length) := by simp [World.shape?, hb]
    have hnew : (w.freeze ⟨b, l.length, none⟩ 1).heap[b]? = some (.cells ⟨l⟩ e' (l.length, l.length + 1)) := by
      simp [World.freeze, Array.getElem?_modify, hb]
    have hold : ∀ k, k ≠ b → (w.freeze ⟨b, l.length, none⟩ 1).heap[k]? = w.heap[k]? := fun k hk => by
      simp [World.freeze, Array.getElem?_modify, Ne.symm hk]
    refine ⟨_, w.freeze ⟨b, l.length, none⟩ 1, _, .inl ?_, ⟨rfl, rfl⟩, st.heap.write i hi hnew hold, ⟨rfl, rfl, rfl, by simp [World.freeze]⟩⟩
    simp only [execOp, st.eval hx]
    simp [convert, run_underlying ht, run_underlying he, markStringish, hsh]
  · rintro q Γ' ⟨rfl, rfl⟩; exact h
end Go.Sl
