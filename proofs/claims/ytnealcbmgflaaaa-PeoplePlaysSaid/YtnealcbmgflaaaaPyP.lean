/- PeoplePlays: people answer, and are told, as the document says. For every input; no conditions. -/
import Derived.Test.YtnealcbmgflaaaaRows
import Derived.Test.YtnealcbmgflaaaaPeR
import Derived.Test.YtnealcbmgflaaaaPrM
set_option linter.unusedSimpArgs false
set_option linter.unusedVariables false
namespace Go.Proofs.Ytnealcbmgflaaaa
open Go.ChangeShapes Go.WideShapes Go.ChangeAt Go.RowKit Go.Sl
namespace plays

theorem own : ownKnob Try.prog.godebug = none := by kernel_rfl
theorem laidOut : laidOutB Try.prog = true := by kernel_rfl

set_option maxRecDepth 100000 in
theorem lifted (os : Os) (started : os.Started) (H : Type) (enc : TypeId × Value → H) :
    ReturnsInHanded {} Try.checked os 6 .any (Rows.peoplePlaysSpec.pre6 enc Try.prog Try.f6 Rows.peoplePlaysRow.domain false) (Rows.peoplePlaysSpec.post enc Try.prog Try.f6 false true false false) := by
  refine returnsInHanded_of_change_sized (C := Try.checked) own started (by kernel_rfl) Try.func6
    (ChangeSpec.witness6 (enc := enc) (C := Try.checked) false ⟨#[], #[.slice none 0 0], []⟩ 8 (by kernel_rfl) (by kernel_rfl) (by kernel_rfl) (by kernel_rfl)) ?_
  intro W base args ds gs before hval0 hW hcnd hwt _
  have hval : ∀ (j : Nat) t v, Try.f6.params[j]? = some t → args[j]? = some v → Value.okWide Try.prog W .any base t v := hval0
  obtain ⟨p, q, hA0, hV, hpq, hfz, hnd⟩ := id hW
  have hA : DataW.TrodAll enc Try.prog W 0 (fun _ => true) true Try.f6.params.toList args.toList ds p := hA0
  rw [Try.params6] at hA hval
  obtain ⟨v0, d0, rfl, rfl, h0⟩ := trodAll_one hA
  obtain ⟨rfl, _⟩ := trodVars_none hV
  obtain ⟨p0x, n0, c0, rfl⟩ := okWide_slice Try.underlying22 (hval 0 22 v0 rfl rfl)
  obtain ⟨w0, l0, hv0, hl0⟩ := Go.Pe.acts_of (reads_of (j := 0) (t := 22) hwt rfl rfl h0)
  obtain rfl : Value.slice p0x n0 c0 = w0 := by simpa [Value.cells] using hv0
  refine (law_calls_pool (Go.Pe.plays_law hl0.1 hl0.2.1 hl0.2.2)).mono fun e W' ⟨he, hB⟩ => ?_
  exact ⟨_, he, law_post laidOut (by kernel_rfl) rfl Try.underlying4 rfl hW rfl hB⟩

theorem holds : Rows.PeoplePlaysSaid :=
  OpenClaim.holds_of_wide 6 Try.f6 rfl rfl rfl rfl rfl rfl rfl ⟨rfl, rfl, rfl, rfl, rfl⟩ rfl rfl rfl rfl rfl (by kernel_rfl) Try.func6 (by kernel_rfl)
    (of_decide_eq_true (by kernel_rfl)) (by unfold Func.isWrapper; first | (rw [if_pos (by decide +kernel)]; kernel_rfl) | (rw [if_neg (by decide +kernel)]; exact ⟨rfl, rfl⟩))
    (fun os started H enc _ => lifted os started H enc)
end plays
#print axioms plays.holds
end Go.Proofs.Ytnealcbmgflaaaa
