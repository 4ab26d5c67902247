/-
  No cell of these rows narrows 'for every input' (looked for: loops, veiled, ifaces, maps, wideKeys, modest, calm, conditions, laid).
  DERIVED. THE GIVEN ROWS OF THIS SEAT. 6 by the template 'for every input the law returns true; each argument reads behind the call as it read before'; 0 by the template 'total and deterministic' (their statements: YtjphghadogedkaaTotals.lean).
  GIVEN WITH THE SEED: the statements are not yours to turn. If you find one false, say at which input.
  Laid BY PROGRAM, IN A SANDBOX (cutbox-rows.mjs): the forced cells as the released guide's own fill.sh prints them over the translation 8f124e10c57f8dea… (all of the seat's roots in one cut). By AI agents, Wed Nov 11 2026. No macro, syntax, notation, axiom, sorry.
-/
import Derived.Test.YtjphghadogedkaaChecked
import GoSem.Claim
import GoSem.ClaimJoined
import GoSem.ClaimMapViews
import Derived.JoinedTies
import Derived.KernelRfl
namespace Go.Proofs.Ytjphghadogedkaa
/- THE CELL 'sum', in the pinned program and in every row, IS THE sha256 OF THE DUMP (.gsa) THAT YtjphghadogedkaaProg.lean LOADS. Nothing in Lean hashes anything: it is a label: what it is worth is what the hold of that sum in a sandbox is worth. -/
noncomputable def Try.pinned : Pinned := { name := "ytjphghadogedkaa", sum := "8f124e10c57f8dea5a4a7edeb62275252dc36e92379755f430bc7b3afe544f5f", checked := Try.checked }
namespace Rows
def none {H : Type} : Left H := { results := [], args := [] }

/-- 'ingotlaw20.ReviewPasses': WHATEVER THE INPUT: true; the input reads as it did. -/
def reviewPassesSpec : ChangeSpec := { name := "reviewPasses", fn := fun _ => fun
  | [d1, d2] => { results := [.lit (.bool true)], args := [d1, d2] }
  | _ => none }
def reviewPassesRow : OpenClaim := { program := "ytjphghadogedkaa", sum := "8f124e10c57f8dea5a4a7edeb62275252dc36e92379755f430bc7b3afe544f5f", func := "ingot/ingotlaw20.ReviewPasses", spec := "reviewPasses", unfollowed := true, recurses := true, apart := false }
def ReviewPassesSaid : Prop := reviewPassesRow.holds Try.pinned (OpenSpec.ofChange reviewPassesSpec)

/-- ITS FALSE NEIGHBOUR: 'it returns false'. Refute it at one input. -/
def reviewPassesWrong : ChangeSpec := { name := "reviewPasses", fn := fun _ => fun
  | [d1, d2] => { results := [.lit (.bool false)], args := [d1, d2] }
  | _ => none }
def ReviewPassesWrongFalsely : Prop := reviewPassesRow.holds Try.pinned (OpenSpec.ofChange reviewPassesWrong)

/-- 'ingotlaw20.ReviewMonotone': WHATEVER THE INPUT: true; the input reads as it did. -/
def reviewMonotoneSpec : ChangeSpec := { name := "reviewMonotone", fn := fun _ => fun
  | [d1, d2, d3] => { results := [.lit (.bool true)], args := [d1, d2, d3] }
  | _ => none }
def reviewMonotoneRow : OpenClaim := { program := "ytjphghadogedkaa", sum := "8f124e10c57f8dea5a4a7edeb62275252dc36e92379755f430bc7b3afe544f5f", func := "ingot/ingotlaw20.ReviewMonotone", spec := "reviewMonotone", unfollowed := true, recurses := true, apart := false }
def ReviewMonotoneSaid : Prop := reviewMonotoneRow.holds Try.pinned (OpenSpec.ofChange reviewMonotoneSpec)

/-- ITS FALSE NEIGHBOUR: 'it returns false'. Refute it at one input. -/
def reviewMonotoneWrong : ChangeSpec := { name := "reviewMonotone", fn := fun _ => fun
  | [d1, d2, d3] => { results := [.lit (.bool false)], args := [d1, d2, d3] }
  | _ => none }
def ReviewMonotoneWrongFalsely : Prop := reviewMonotoneRow.holds Try.pinned (OpenSpec.ofChange reviewMonotoneWrong)

/-- 'ingotlaw20.ReviewVotes': WHATEVER THE INPUT: true; the input reads as it did. -/
def reviewVotesSpec : ChangeSpec := { name := "reviewVotes", fn := fun _ => fun
  | [d1, d2] => { results := [.lit (.bool true)], args := [d1, d2] }
  | _ => none }
def reviewVotesRow : OpenClaim := { program := "ytjphghadogedkaa", sum := "8f124e10c57f8dea5a4a7edeb62275252dc36e92379755f430bc7b3afe544f5f", func := "ingot/ingotlaw20.ReviewVotes", spec := "reviewVotes", unfollowed := true, recurses := true, apart := false }
def ReviewVotesSaid : Prop := reviewVotesRow.holds Try.pinned (OpenSpec.ofChange reviewVotesSpec)

/-- ITS FALSE NEIGHBOUR: 'it returns false'. Refute it at one input. -/
def reviewVotesWrong : ChangeSpec := { name := "reviewVotes", fn := fun _ => fun
  | [d1, d2] => { results := [.lit (.bool false)], args := [d1, d2] }
  | _ => none }
def ReviewVotesWrongFalsely : Prop := reviewVotesRow.holds Try.pinned (OpenSpec.ofChange reviewVotesWrong)

/-- 'ingotlaw20.ReviewOpen': WHATEVER THE INPUT: true; the input reads as it did. -/
def reviewOpenSpec : ChangeSpec := { name := "reviewOpen", fn := fun _ => fun
  | [d] => { results := [.lit (.bool true)], args := [d] }
  | _ => none }
def reviewOpenRow : OpenClaim := { program := "ytjphghadogedkaa", sum := "8f124e10c57f8dea5a4a7edeb62275252dc36e92379755f430bc7b3afe544f5f", func := "ingot/ingotlaw20.ReviewOpen", spec := "reviewOpen", unfollowed := true, recurses := true, apart := false }
def ReviewOpenSaid : Prop := reviewOpenRow.holds Try.pinned (OpenSpec.ofChange reviewOpenSpec)

/-- ITS FALSE NEIGHBOUR: 'it returns false'. Refute it at one input. -/
def reviewOpenWrong : ChangeSpec := { name := "reviewOpen", fn := fun _ => fun
  | [d] => { results := [.lit (.bool false)], args := [d] }
  | _ => none }
def ReviewOpenWrongFalsely : Prop := reviewOpenRow.holds Try.pinned (OpenSpec.ofChange reviewOpenWrong)

/-- 'ingotlaw20.ReviewPlays': WHATEVER THE INPUT: true; the input reads as it did. -/
def reviewPlaysSpec : ChangeSpec := { name := "reviewPlays", fn := fun _ => fun
  | [d] => { results := [.lit (.bool true)], args := [d] }
  | _ => none }
def reviewPlaysRow : OpenClaim := { program := "ytjphghadogedkaa", sum := "8f124e10c57f8dea5a4a7edeb62275252dc36e92379755f430bc7b3afe544f5f", func := "ingot/ingotlaw20.ReviewPlays", spec := "reviewPlays", unfollowed := true, recurses := true, apart := false }
def ReviewPlaysSaid : Prop := reviewPlaysRow.holds Try.pinned (OpenSpec.ofChange reviewPlaysSpec)

/-- ITS FALSE NEIGHBOUR: 'it returns false'. Refute it at one input. -/
def reviewPlaysWrong : ChangeSpec := { name := "reviewPlays", fn := fun _ => fun
  | [d] => { results := [.lit (.bool false)], args := [d] }
  | _ => none }
def ReviewPlaysWrongFalsely : Prop := reviewPlaysRow.holds Try.pinned (OpenSpec.ofChange reviewPlaysWrong)

/-- 'ingotlaw20.ReviewNobody': WHATEVER THE INPUT: true; the input reads as it did. -/
def reviewNobodySpec : ChangeSpec := { name := "reviewNobody", fn := fun _ => fun
  | [d] => { results := [.lit (.bool true)], args := [d] }
  | _ => none }
def reviewNobodyRow : OpenClaim := { program := "ytjphghadogedkaa", sum := "8f124e10c57f8dea5a4a7edeb62275252dc36e92379755f430bc7b3afe544f5f", func := "ingot/ingotlaw20.ReviewNobody", spec := "reviewNobody", unfollowed := true, recurses := true, apart := false }
def ReviewNobodySaid : Prop := reviewNobodyRow.holds Try.pinned (OpenSpec.ofChange reviewNobodySpec)

/-- ITS FALSE NEIGHBOUR: 'it returns false'. Refute it at one input. -/
def reviewNobodyWrong : ChangeSpec := { name := "reviewNobody", fn := fun _ => fun
  | [d] => { results := [.lit (.bool false)], args := [d] }
  | _ => none }
def ReviewNobodyWrongFalsely : Prop := reviewNobodyRow.holds Try.pinned (OpenSpec.ofChange reviewNobodyWrong)

/- THE SECOND FORM. 'bulk': how many values and letters a reading holds, each counted each time it is reached (what is shared counts as often as it is met; a slice's spare places count too). A statement '..UptoSaid' is the law's where the arguments, and the package variables that the reading takes, are together of bulk at most 1048576: NARROWER than '..Said'. Prove '..Said' where nothing that the law and all that it calls make is longer than what came in: it says more and counts as full. Else prove '..UptoSaid'. A law counts once. -/
mutual
def uptoBulk {H : Type} : DataW H → Nat
  | .lit (.string bytes) => bytes.length + 1
  | .lit _ => 1
  | .nil => 1
  | .ptr d => uptoBulk d + 1
  | .slice elems spare => uptoBulkAll elems + uptoBulkAll spare + 1
  | .agg parts => uptoBulkAll parts + 1
  | .iface _ d => uptoBulk d + 1
  | .map entries => uptoBulkEntries entries + 1
  | .held _ => 1
def uptoBulkAll {H : Type} : List (DataW H) → Nat
  | [] => 0
  | d :: r => uptoBulk d + uptoBulkAll r
def uptoBulkEntries {H : Type} : List (Lit × DataW H) → Nat
  | [] => 0
  | x :: r => uptoBulkEntry x + uptoBulkEntries r
def uptoBulkEntry {H : Type} : Lit × DataW H → Nat
  | (.string bytes, d) => bytes.length + uptoBulk d + 1
  | (_, d) => uptoBulk d + 1
 end
def uptoSmall : (H : Type) → List (DataW H) → Bool := fun _ ds => decide (uptoBulkAll ds ≤ 1048576)
def OpenSpec.upto (s : _root_.Go.ChangeSpec) : _root_.Go.OpenSpec := { _root_.Go.OpenSpec.ofChange s with cond := some uptoSmall }

/-- 'ingotlaw20.ReviewPasses', WHERE WHAT IT READS IS OF BULK AT MOST 1048576: true; the input reads as it did. -/
def reviewPassesUptoRow : OpenClaim := { program := "ytjphghadogedkaa", sum := "8f124e10c57f8dea5a4a7edeb62275252dc36e92379755f430bc7b3afe544f5f", func := "ingot/ingotlaw20.ReviewPasses", spec := "reviewPasses", unfollowed := true, recurses := true, apart := false, narrowed := true }
def ReviewPassesUptoSaid : Prop := reviewPassesUptoRow.holds Try.pinned (OpenSpec.upto reviewPassesSpec)

/-- 'ingotlaw20.ReviewMonotone', WHERE WHAT IT READS IS OF BULK AT MOST 1048576: true; the input reads as it did. -/
def reviewMonotoneUptoRow : OpenClaim := { program := "ytjphghadogedkaa", sum := "8f124e10c57f8dea5a4a7edeb62275252dc36e92379755f430bc7b3afe544f5f", func := "ingot/ingotlaw20.ReviewMonotone", spec := "reviewMonotone", unfollowed := true, recurses := true, apart := false, narrowed := true }
def ReviewMonotoneUptoSaid : Prop := reviewMonotoneUptoRow.holds Try.pinned (OpenSpec.upto reviewMonotoneSpec)

/-- 'ingotlaw20.ReviewVotes', WHERE WHAT IT READS IS OF BULK AT MOST 1048576: true; the input reads as it did. -/
def reviewVotesUptoRow : OpenClaim := { program := "ytjphghadogedkaa", sum := "8f124e10c57f8dea5a4a7edeb62275252dc36e92379755f430bc7b3afe544f5f", func := "ingot/ingotlaw20.ReviewVotes", spec := "reviewVotes", unfollowed := true, recurses := true, apart := false, narrowed := true }
def ReviewVotesUptoSaid : Prop := reviewVotesUptoRow.holds Try.pinned (OpenSpec.upto reviewVotesSpec)

/-- 'ingotlaw20.ReviewOpen', WHERE WHAT IT READS IS OF BULK AT MOST 1048576: true; the input reads as it did. -/
def reviewOpenUptoRow : OpenClaim := { program := "ytjphghadogedkaa", sum := "8f124e10c57f8dea5a4a7edeb62275252dc36e92379755f430bc7b3afe544f5f", func := "ingot/ingotlaw20.ReviewOpen", spec := "reviewOpen", unfollowed := true, recurses := true, apart := false, narrowed := true }
def ReviewOpenUptoSaid : Prop := reviewOpenUptoRow.holds Try.pinned (OpenSpec.upto reviewOpenSpec)

/-- 'ingotlaw20.ReviewPlays', WHERE WHAT IT READS IS OF BULK AT MOST 1048576: true; the input reads as it did. -/
def reviewPlaysUptoRow : OpenClaim := { program := "ytjphghadogedkaa", sum := "8f124e10c57f8dea5a4a7edeb62275252dc36e92379755f430bc7b3afe544f5f", func := "ingot/ingotlaw20.ReviewPlays", spec := "reviewPlays", unfollowed := true, recurses := true, apart := false, narrowed := true }
def ReviewPlaysUptoSaid : Prop := reviewPlaysUptoRow.holds Try.pinned (OpenSpec.upto reviewPlaysSpec)

/-- 'ingotlaw20.ReviewNobody', WHERE WHAT IT READS IS OF BULK AT MOST 1048576: true; the input reads as it did. -/
def reviewNobodyUptoRow : OpenClaim := { program := "ytjphghadogedkaa", sum := "8f124e10c57f8dea5a4a7edeb62275252dc36e92379755f430bc7b3afe544f5f", func := "ingot/ingotlaw20.ReviewNobody", spec := "reviewNobody", unfollowed := true, recurses := true, apart := false, narrowed := true }
def ReviewNobodyUptoSaid : Prop := reviewNobodyUptoRow.holds Try.pinned (OpenSpec.upto reviewNobodySpec)

end Rows
end Go.Proofs.Ytjphghadogedkaa
