/- What was flushed, and not written since, is there behind a loss of power, whatever else is kept: the law DiskSure returns true for every input, and its arguments read as they did. No condition. -/
import Derived.Test.YtpbkbmdpmfclpaaRows
import Derived.Test.YtpbkbmdpmfclpaaDkZ
namespace Go.Proofs.Ytpbkbmdpmfclpaa
open Go.ChangeShapes Go.WideShapes Go.ChangeAt Go.RowKit Go.Sl
namespace sure

theorem own : ownKnob Try.prog.godebug = none := by kernel_rfl
theorem laidOut : laidOutB Try.prog = true := by kernel_rfl

set_option maxRecDepth 100000 in
theorem lifted (os : Os) (started : os.Started) (H : Type) (enc : TypeId × Value → H) :
    ReturnsInHanded {} Try.checked os 3 .any (Rows.diskSureSpec.pre6 enc Try.prog Try.f3 Rows.diskSureRow.domain false) (Rows.diskSureSpec.post enc Try.prog Try.f3 false true false false) := by
  refine returnsInHanded_of_change_sized (C := Try.checked) own started (by kernel_rfl) Try.func3
    (ChangeSpec.witness6 (enc := enc) (C := Try.checked) false ⟨#[], #[.slice none 0 0, .slice none 0 0, .slice none 0 0], []⟩ 8 (by kernel_rfl) (by kernel_rfl) (by kernel_rfl) (by kernel_rfl)) ?_
  intro W base args ds gs before hval0 hW hcnd hwt _
  have hval : ∀ (j : Nat) t v, Try.f3.params[j]? = some t → args[j]? = some v → Value.okWide Try.prog W .any base t v := hval0
  obtain ⟨p, q, hA0, hV, hpq, hfz, hnd⟩ := id hW
  have hA : DataW.TrodAll enc Try.prog W 0 (fun _ => true) true Try.f3.params.toList args.toList ds p := hA0
  rw [Try.params3] at hA hval
  obtain ⟨v0, v1, v2, d0, d1, d2, p0, p1, p2, rfl, rfl, rfl, h0, h1, h2⟩ := trodAll_three hA
  obtain ⟨rfl, _⟩ := trodVars_none hV
  obtain ⟨a0, n0, c0, rfl⟩ := okWide_slice Try.underlying22 (hval 0 22 v0 rfl rfl)
  obtain ⟨a1, n1, c1, rfl⟩ := okWide_slice Try.underlying22 (hval 1 22 v1 rfl rfl)
  obtain ⟨a2, n2, c2, rfl⟩ := okWide_slice Try.underlying23 (hval 2 23 v2 rfl rfl)
  obtain ⟨v, l, hv, hl⟩ := Dk.acts_of (reads_of (j := 0) (t := 22) hwt rfl rfl h0)
  obtain ⟨v', l', hv', hl'⟩ := Dk.acts_of (reads_of (j := 1) (t := 22) hwt rfl rfl h1)
  obtain ⟨k, keep, hk, hkr, _⟩ := Reads.bools rfl rfl (by kernel_rfl) (by kernel_rfl) (reads_of (j := 2) (t := 23) hwt rfl rfl h2)
  obtain rfl : Value.slice a0 n0 c0 = v := by simpa [Value.cells] using hv
  obtain rfl : Value.slice a1 n1 c1 = v' := by simpa [Value.cells] using hv'
  obtain rfl : Value.slice a2 n2 c2 = k := by simpa [Value.cells] using hk
  refine (law_calls (Dk.sure_law _ l hl _ l' hl' _ keep hkr)).mono fun e W' ⟨he, hB⟩ => ?_
  exact ⟨_, he, law_post laidOut (by kernel_rfl) rfl Try.underlying4 rfl hW rfl hB⟩

theorem holds : Rows.DiskSureSaid :=
  OpenClaim.holds_of_wide 3 Try.f3 rfl rfl rfl rfl rfl rfl rfl ⟨rfl, rfl, rfl, rfl, rfl⟩ rfl rfl rfl rfl rfl (by kernel_rfl) Try.func3 (by kernel_rfl)
    (of_decide_eq_true (by kernel_rfl)) (by unfold Func.isWrapper; first | (rw [if_pos (by decide +kernel)]; kernel_rfl) | (rw [if_neg (by decide +kernel)]; exact ⟨rfl, rfl⟩))
    (fun os started H enc _ => lifted os started H enc)
end sure
#print axioms sure.holds
end Go.Proofs.Ytpbkbmdpmfclpaa
