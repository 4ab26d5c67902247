/- Pairs are alike; the document's own functions. -/
import Derived.Test.YtkmdehoofnlkbaaTrR
namespace Go.Tr
open Go Go.Sl
theorem equal_pair (w : World) (a b : En) : (Op.equal 37 (.agg ⟨entC a⟩) (.agg ⟨entC b⟩)).run Go.Proofs.Try.prog w = .ok (a == b) w := by
  have hf : (Program.fieldsOf Go.Proofs.Try.prog 37).toList = [⟨"Key", 9, 0, false, "", "", 0⟩, ⟨"Value", 9, 1, false, "", "", 16⟩] := by kernel_rfl
  have hs : (Go.Proofs.Try.prog).underlying 9 = some .string := rfl
  have hp : ∀ (l : List Value) (i : Nat) (v : Value), l[i]? = some v → (part 9 ⟨l⟩ i).run Go.Proofs.Try.prog w = .ok v w := fun l i v h => by simp [part, run_isAgg (show isRow Go.Proofs.Try.prog 9 = some false by kernel_rfl), h]
  show (Op.equalIn (9999 + 1) _ _ _).run _ w = _
  rw [run_equalIn_struct w 9999 37 _ _ (by kernel_rfl) (by kernel_rfl), hf]
  obtain ⟨a1, a2⟩ := a
  obtain ⟨b1, b2⟩ := b
  have e1 : ∀ l : List UInt8, (ByteArray.mk ⟨l⟩).toList = l := fun l => by simp
  have q1 := hp (entC (a1, a2)) 0 (str a1) rfl
  have q2 := hp (entC (b1, b2)) 0 (str b1) rfl
  have q3 := hp (entC (a1, a2)) 1 (str a2) rfl
  have q4 := hp (entC (b1, b2)) 1 (str b2) rfl
  have q5 : ∀ x y : List UInt8, (Op.equalIn 9999 9 (str x) (str y)).run Go.Proofs.Try.prog w = .ok (x == y) w := fun x y => by rw [run_equalIn_string w 9998 9 _ _ hs, e1, e1]
  rw [show ((a1, a2) == (b1, b2)) = (a1 == b1 && a2 == b2) from rfl]
  simp only [Op.eqFields, Sem.run_bind, Sem.run_ite, Sem.run_pure]
  rw [if_pos (by decide), q1, Result.andThen_ok, q2, Result.andThen_ok, q5, Result.andThen_ok]
  cases a1 == b1
  · rfl
  · rw [if_neg (by decide), if_pos (by decide), q3, Result.andThen_ok, q4, Result.andThen_ok, q5, Result.andThen_ok]
    cases a2 == b2 <;> rfl
variable {cx : Cx} {fr : Fr} {Γ : List HProp} {ty : TypeId}
theorem Yl.neq_pair {x y : Operand} {tz : TypeId} {a b : En} (hx : ev cx fr x = some (.agg ⟨entC a⟩)) (hy : ev cx fr y = some (.agg ⟨entC b⟩)) : Yl Go.Proofs.Try.prog cx fr Γ (.binOp .neq 37 x y tz) ty (.bool (!(a == b))) := fun aa w d pos af g s => by
  have hm : (Go.Proofs.Try.prog).eqGuardType (Go.Proofs.Try.prog).depth 37 = false := by kernel_rfl
  simp [execOp, s.eval hx, s.eval hy, run_eqGuard_agg w .neq 37 x y ⟨entC a⟩ ⟨entC b⟩ hm, binOp, equal_pair]
end Go.Tr
