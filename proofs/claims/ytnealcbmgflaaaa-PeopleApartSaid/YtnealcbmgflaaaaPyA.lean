/- PeopleApart: calls that name one organisation change nothing that is told of another one. For every input; no conditions. -/
import Derived.Test.YtnealcbmgflaaaaRows
import Derived.Test.YtnealcbmgflaaaaPeR
import Derived.Test.YtnealcbmgflaaaaPeQ
set_option linter.unusedSimpArgs false
set_option linter.unusedVariables false
namespace Go.Proofs.Ytnealcbmgflaaaa
open Go.ChangeShapes Go.WideShapes Go.ChangeAt Go.RowKit Go.Sl
namespace apart

theorem own : ownKnob Try.prog.godebug = none := by kernel_rfl
theorem laidOut : laidOutB Try.prog = true := by kernel_rfl

set_option maxRecDepth 100000 in
theorem lifted (os : Os) (started : os.Started) (H : Type) (enc : TypeId × Value → H) :
    ReturnsInHanded {} Try.checked os 5 .any (Rows.peopleApartSpec.pre6 enc Try.prog Try.f5 Rows.peopleApartRow.domain false) (Rows.peopleApartSpec.post enc Try.prog Try.f5 false true false false) := by
  refine returnsInHanded_of_change_sized (C := Try.checked) own started (by kernel_rfl) Try.func5
    (ChangeSpec.witness6 (enc := enc) (C := Try.checked) false ⟨#[], #[.slice none 0 0, .agg #[.int .i64 0, .string ⟨#[]⟩, .string ⟨#[]⟩, .string ⟨#[]⟩, .int .i64 0], .string ⟨#[]⟩], []⟩ 8 (by kernel_rfl) (by kernel_rfl) (by kernel_rfl) (by kernel_rfl)) ?_
  intro W base args ds gs before hval0 hW hcnd hwt _
  have hval : ∀ (j : Nat) t v, Try.f5.params[j]? = some t → args[j]? = some v → Value.okWide Try.prog W .any base t v := hval0
  obtain ⟨p, q, hA0, hV, hpq, hfz, hnd⟩ := id hW
  have hA : DataW.TrodAll enc Try.prog W 0 (fun _ => true) true Try.f5.params.toList args.toList ds p := hA0
  rw [Try.params5] at hA hval
  obtain ⟨v0, v1, v2, d0, d1, d2, p0, p1, p2, rfl, rfl, rfl, h0, h1, h2⟩ := trodAll_three hA
  obtain ⟨rfl, _⟩ := trodVars_none hV
  obtain ⟨p0x, n0, c0, rfl⟩ := okWide_slice Try.underlying22 (hval 0 22 v0 rfl rfl)
  obtain ⟨w0, l0, hv0, hl0⟩ := Go.Pe.acts_of (reads_of (j := 0) (t := 22) hwt rfl rfl h0)
  obtain rfl : Value.slice p0x n0 c0 = w0 := by simpa [Value.cells] using hv0
  obtain ⟨⟨c1⟩, rfl, _⟩ := okWide_struct Try.underlying28 (hval 1 28 v1 rfl rfl)
  obtain ⟨x1, hc1, hl1⟩ := Go.Pe.act_of (reads_of (j := 1) (t := 28) hwt rfl rfl h1)
  obtain rfl : c1 = _ := hc1
  obtain ⟨⟨⟨a2⟩⟩, rfl⟩ := okWide_string Try.underlying9 (hval 2 9 v2 rfl rfl)
  have hb2 : a2.length ≤ 140737488355328 := by
    obtain ⟨l, hl, hb⟩ := (reads_of (j := 2) (t := 9) hwt rfl rfl h2).str rfl
    have hl : [Value.string ⟨⟨a2⟩⟩] = [Sl.str l] := hl
    cases hl
    have : reachBytes = 140737488351232 := rfl
    omega
  refine (law_calls_pool (Go.Pe.apart_law hl0.1 hl0.2.1 hl0.2.2 hl1 hb2)).mono fun e W' ⟨he, hB⟩ => ?_
  exact ⟨_, he, law_post laidOut (by kernel_rfl) rfl Try.underlying4 rfl hW rfl hB⟩

theorem holds : Rows.PeopleApartSaid :=
  OpenClaim.holds_of_wide 5 Try.f5 rfl rfl rfl rfl rfl rfl rfl ⟨rfl, rfl, rfl, rfl, rfl⟩ rfl rfl rfl rfl rfl (by kernel_rfl) Try.func5 (by kernel_rfl)
    (of_decide_eq_true (by kernel_rfl)) (by unfold Func.isWrapper; first | (rw [if_pos (by decide +kernel)]; kernel_rfl) | (rw [if_neg (by decide +kernel)]; exact ⟨rfl, rfl⟩))
    (fun os started H enc _ => lifted os started H enc)
end apart
#print axioms apart.holds
end Go.Proofs.Ytnealcbmgflaaaa
