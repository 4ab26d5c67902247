/- A channel that no call made has nothing and takes nothing. -/
import Derived.Test.YtabbonafljochaaGreatDoorCards
import Derived.Test.YtabbonafljochaaGreatDoorTie
import Derived.WalkKit
import Derived.ProofKit
import Derived.OpenShut
import Derived.Deep.DeepHandedRow
import Derived.Test.YtabbonafljochaaGreatDoorCnB
set_option linter.unusedSimpArgs false
set_option linter.unusedVariables false
namespace Go.Proofs.YtabbonafljochaaGreatDoor
open Go.ChangeShapes Go.WideShapes Go.ChangeAt Go.RowKit Go.Sl
namespace nobody

theorem own : ownKnob Tryz.prog.godebug = none := by kernel_rfl
theorem laidOut : laidOutB Tryz.prog = true := by kernel_rfl
set_option maxRecDepth 100000 in
theorem contract (H : Type) (enc : TypeId × Value → H) (W : World) (base : Nat) (args : Array Value) (ds gs : List (DataW H)) (before : List MemPlace)
    (hval0 : ∀ (j : Nat) t v, Tryz.f6.params[j]? = some t → args[j]? = some v → Value.okWide Tryz.prog W .any base t v)
    (hW : DataW.Whole enc Tryz.prog Tryz.f6.params.toList Rows.channelNobodySpec.vars false W args.toList ds gs before)
    (hwt : (DataW.weightsEach Tryz.prog (Tryz.f6.params.toList ++ (OpenSpec.ofChange Rows.channelNobodySpec).bare.plain.varTypes Tryz.prog) (ds ++ gs)).all (· ≤ reachBytes) = true) (hL : laidMetH Tryz.prog Rows.channelNobodyRow.laid W) :
    Calls Tryz.prog 6 args W fun e W' => ∃ v, e = .returned v ∧ Rows.channelNobodySpec.post enc Tryz.prog Tryz.f6 false true false false W args v W' := by
  have hval : ∀ (j : Nat) t v, Tryz.f6.params[j]? = some t → args[j]? = some v → Value.okWide Tryz.prog W .any base t v := hval0
  obtain ⟨p, q, hA0, hV, hpq, hfz, hnd⟩ := id hW
  have hA : DataW.TrodAll enc Tryz.prog W 0 (fun _ => true) true Tryz.f6.params.toList args.toList ds p := hA0
  rw [Tryz.params6] at hA hval
  obtain ⟨v0, v1, d0, d1, p0, p1, rfl, rfl, rfl, h0, h1⟩ := trodAll_two hA
  obtain ⟨rfl, _⟩ := trodVars_none hV
  have hL : laidMet Tryz.prog Rows.channelNobodyRow.laid W := hL
  obtain ⟨ps, ⟨g1, t1, cs1, fu1, y1, z1, e11, e12, e13, e14, ⟨g2, t2, cs2, fu2, y2, z2, e21, e22, e23, e24, ⟨g3, t3, cs3, fu3, y3, z3, e31, e32, e33, e34, _⟩, _⟩, _⟩, _⟩ := hL
  obtain ⟨tw, fw, hw1⟩ := Go.Ev.words_listed (K := Go.Ev.tabK) (show Tryz.prog.globalNamed "ingot/hash.words" = some 1 by kernel_rfl) (by kernel_rfl) rfl ⟨g1, t1, cs1, fu1, y1, e11, e12, e13, e14⟩
  obtain ⟨tb1, fb1, hw0⟩ := Go.Ev.vertex_of (show Tryz.prog.globalNamed "ingot/lines.bottom" = some 0 by kernel_rfl) (by kernel_rfl) ⟨g2, t2, cs2, fu2, y2, e21, e22, e23, e24⟩
  obtain ⟨tb2, fb2, hw2⟩ := Go.Ev.vertex_of (show Tryz.prog.globalNamed "ingot/patch.bottom" = some 2 by kernel_rfl) (by kernel_rfl) ⟨g3, t3, cs3, fu3, y3, e31, e32, e33, e34⟩
  obtain ⟨⟨c0⟩, rfl, _⟩ := okWide_struct Tryz.underlying33 (hval 0 33 v0 rfl rfl)
  have hx0 := Go.Ev.patch_any (reads_of (j := 0) (t := 33) hwt rfl rfl h0)
  obtain ⟨a0, t0x, n0, p0x, n1x, c1x, q0x, n2x, c2x, hx0⟩ := hx0
  obtain rfl : c0 = _ := hx0
  obtain ⟨⟨⟨a1⟩⟩, rfl⟩ := okWide_string Tryz.underlying9 (hval 1 9 v1 rfl rfl)
  refine (law_calls (Go.Ev.nobody_ok hw0 hw1 hw2 a0 n0 ⟨⟨a1⟩⟩ t0x p0x q0x n1x c1x n2x c2x)).mono fun e W' ⟨he, hB⟩ => ?_
  exact ⟨_, he, law_post laidOut (by kernel_rfl) rfl Tryz.underlying4 rfl hW rfl hB⟩

noncomputable def laidWorld (os : Os) : World :=
  { World.holding Tryz.prog os ⟨#[], #[], []⟩ with heap := (((World.holding Tryz.prog os ⟨#[], #[], []⟩).heap.modify 0 (Go.Ev.relay Go.Ev.vtxV)).modify 1 (Go.Ev.relay (Go.Sh.u32s Go.Ev.tabK))).modify 2 (Go.Ev.relay Go.Ev.vtxV) }
theorem laid_met (os : Os) : laidMet Tryz.prog Rows.channelNobodyRow.laid ((laidWorld os).forCall (fun _ _ => 0) ⟨#[], #[.agg #[.string ⟨#[]⟩, .int .i64 0, .string ⟨#[]⟩, .slice none 0 0, .slice none 0 0], .string ⟨#[]⟩], []⟩).memory :=
  laidMet_of_run' 8 (by kernel_rfl) (by kernel_rfl)
theorem reads (os : Os) {H : Type} (enc : TypeId × Value → H) : ∃ x, DataW.whole enc Tryz.prog ((laidWorld os).forCall (fun _ _ => 0) ⟨#[], #[.agg #[.string ⟨#[]⟩, .int .i64 0, .string ⟨#[]⟩, .slice none 0 0, .slice none 0 0], .string ⟨#[]⟩], []⟩).memory Tryz.f6.params.toList Rows.channelNobodySpec.vars false #[.agg #[.string ⟨#[]⟩, .int .i64 0, .string ⟨#[]⟩, .slice none 0 0, .slice none 0 0], .string ⟨#[]⟩].toList 8 = some x :=
  Option.isSome_iff_exists.1 (by kernel_rfl)

set_option maxRecDepth 100000 in
theorem lifted (os : Os) (started : os.Started) (H : Type) (enc : TypeId × Value → H) (F : Stop.Interp) :
    ReturnsInHanded {} Tryz.checked os 6 .any ((OpenSpec.ofChange Rows.channelNobodySpec).preRow enc Tryz.prog Tryz.f6 Rows.channelNobodyRow.domain false Rows.channelNobodyRow.laid) (((OpenSpec.ofChange Rows.channelNobodySpec).at F).post enc Tryz.prog Tryz.f6 false true false false) := by
  obtain ⟨x, hx⟩ := reads os enc
  refine returnsInHanded_of_row (C := Tryz.checked) (s := OpenSpec.ofChange Rows.channelNobodySpec) own started (by kernel_rfl) Tryz.func6
    (witness_row_at (enc := enc) (C := Tryz.checked) false (laidWorld os) #[.agg #[.string ⟨#[]⟩, .int .i64 0, .string ⟨#[]⟩, .slice none 0 0, .slice none 0 0], .string ⟨#[]⟩] rfl (by kernel_rfl) (by kernel_rfl) (by kernel_rfl)
      (OpenSpec.preRow_of_cond 8 hx rfl (fun k hk => by cases hk) (by kernel_rfl) (laid_met os))) ?_
  intro W base args ds gs before hval hW _ _ hwt hL _ _
  exact contract H enc W base args ds gs before hval hW hwt hL

theorem said : Rows.ChannelNobodySaid :=
  OpenClaim.holds_of_cond 6 Tryz.f6 rfl rfl rfl rfl rfl rfl rfl ⟨rfl, rfl, rfl, rfl, rfl⟩ rfl rfl rfl rfl rfl (by kernel_rfl) Tryz.func6 (by kernel_rfl)
    (of_decide_eq_true (by kernel_rfl)) (by unfold Func.isWrapper; first | (rw [if_pos (by decide +kernel)]; kernel_rfl) | (rw [if_neg (by decide +kernel)]; exact ⟨rfl, rfl⟩))
    (fun os started H enc _ F => by rw [OpenClaim.pre_eq_preRow]; exact lifted os started H enc F)

theorem plain (f : FuncId) (fn : Func) (hf : Tryz.pinned.checked.prog.funcNamed "ingot/ingotlaw13.ChannelNobody" = some f) (hfn : Tryz.pinned.checked.prog.funcs[f]? = some fn) :
    true = Tryz.pinned.checked.prog.looks [] ∧ ∀ (j : Nat) t, fn.params[j]? = some t → Tryz.pinned.checked.prog.wantsStandIn t = false := by
  obtain rfl : f = 6 := Option.some.inj ((show Tryz.prog.funcNamed "ingot/ingotlaw13.ChannelNobody" = some 6 by kernel_rfl).symm.trans hf) |>.symm
  obtain rfl : fn = Tryz.f6 := (Option.some.inj (Tryz.func6.symm.trans hfn)).symm
  refine ⟨by kernel_rfl, fun j t ht => ?_⟩
  rw [Tryz.params6] at ht
  have key : (Tryz.f6.params.all fun t => !Tryz.prog.wantsStandIn t) = true := by kernel_rfl
  have hm := Array.mem_of_getElem? ht
  rw [Array.all_eq_true'] at key
  rw [← Tryz.params6] at hm
  exact (show Tryz.prog.wantsStandIn t = false by simpa using key t hm)

theorem holds : Rows.ChannelNobodyCardSaid :=
  Claim7.holds_tied_plain_at .later [] _ _ _ _ said (fun _ h => by cases h) (by kernel_rfl) (fun _ h => by cases h) channelNobody_row_tie rfl ⟨rfl, rfl⟩ (by kernel_rfl) rfl plain (by kernel_rfl)
end nobody
#print axioms nobody.holds
end Go.Proofs.YtabbonafljochaaGreatDoor
