/-
  No cell of these rows narrows 'for every input' (looked for: loops, veiled, ifaces, maps, wideKeys, modest, calm, conditions, laid).
  DERIVED. THE GIVEN ROWS OF THIS SEAT. 5 by the template 'for every input the law returns true; each argument reads behind the call as it read before'; 0 by the template 'total and deterministic' (their statements: YtkmdehoofnlkbaaTotals.lean).
  GIVEN WITH THE SEED: the statements are not yours to turn. If you find one false, say at which input.
  Laid BY PROGRAM, IN A SANDBOX (cutbox-rows.mjs): the forced cells as the released guide's own fill.sh prints them over the translation 6751744e685cf83d… (all of the seat's roots in one cut). By AI agents, Wed Nov 11 2026. No macro, syntax, notation, axiom, sorry.
-/
import Derived.Test.YtkmdehoofnlkbaaChecked
import GoSem.Claim
import GoSem.ClaimJoined
import GoSem.ClaimMapViews
import Derived.JoinedTies
import Derived.KernelRfl
namespace Go.Proofs.Ytkmdehoofnlkbaa
/- THE CELL 'sum', in the pinned program and in every row, IS THE sha256 OF THE DUMP (.gsa) THAT YtkmdehoofnlkbaaProg.lean LOADS. Nothing in Lean hashes anything: it is a label: what it is worth is what the hold of that sum in a sandbox is worth. -/
noncomputable def Try.pinned : Pinned := { name := "ytkmdehoofnlkbaa", sum := "6751744e685cf83dc23d1dd1925bd02eed7faf4953409badac1f4cf8f93fc888", checked := Try.checked }
namespace Rows
def none {H : Type} : Left H := { results := [], args := [] }

/-- 'ingotlaw07.TreeScans': WHATEVER THE INPUT: true; the input reads as it did. -/
def treeScansSpec : ChangeSpec := { name := "treeScans", fn := fun _ => fun
  | [d1, d2, d3] => { results := [.lit (.bool true)], args := [d1, d2, d3] }
  | _ => none }
def treeScansRow : OpenClaim := { program := "ytkmdehoofnlkbaa", sum := "6751744e685cf83dc23d1dd1925bd02eed7faf4953409badac1f4cf8f93fc888", func := "ingot/ingotlaw07.TreeScans", spec := "treeScans", unfollowed := true, recurses := true, apart := false }
def TreeScansSaid : Prop := treeScansRow.holds Try.pinned (OpenSpec.ofChange treeScansSpec)

/-- ITS FALSE NEIGHBOUR: 'it returns false'. Refute it at one input. -/
def treeScansWrong : ChangeSpec := { name := "treeScans", fn := fun _ => fun
  | [d1, d2, d3] => { results := [.lit (.bool false)], args := [d1, d2, d3] }
  | _ => none }
def TreeScansWrongFalsely : Prop := treeScansRow.holds Try.pinned (OpenSpec.ofChange treeScansWrong)

/-- 'ingotlaw07.TreeShallow': WHATEVER THE INPUT: true; the input reads as it did. -/
def treeShallowSpec : ChangeSpec := { name := "treeShallow", fn := fun _ => fun
  | [d] => { results := [.lit (.bool true)], args := [d] }
  | _ => none }
def treeShallowRow : OpenClaim := { program := "ytkmdehoofnlkbaa", sum := "6751744e685cf83dc23d1dd1925bd02eed7faf4953409badac1f4cf8f93fc888", func := "ingot/ingotlaw07.TreeShallow", spec := "treeShallow", unfollowed := true, recurses := true, apart := false }
def TreeShallowSaid : Prop := treeShallowRow.holds Try.pinned (OpenSpec.ofChange treeShallowSpec)

/-- ITS FALSE NEIGHBOUR: 'it returns false'. Refute it at one input. -/
def treeShallowWrong : ChangeSpec := { name := "treeShallow", fn := fun _ => fun
  | [d] => { results := [.lit (.bool false)], args := [d] }
  | _ => none }
def TreeShallowWrongFalsely : Prop := treeShallowRow.holds Try.pinned (OpenSpec.ofChange treeShallowWrong)

/-- 'ingotlaw07.TreeGone': WHATEVER THE INPUT: true; the input reads as it did. -/
def treeGoneSpec : ChangeSpec := { name := "treeGone", fn := fun _ => fun
  | [d1, d2] => { results := [.lit (.bool true)], args := [d1, d2] }
  | _ => none }
def treeGoneRow : OpenClaim := { program := "ytkmdehoofnlkbaa", sum := "6751744e685cf83dc23d1dd1925bd02eed7faf4953409badac1f4cf8f93fc888", func := "ingot/ingotlaw07.TreeGone", spec := "treeGone", unfollowed := true, recurses := true, apart := false }
def TreeGoneSaid : Prop := treeGoneRow.holds Try.pinned (OpenSpec.ofChange treeGoneSpec)

/-- ITS FALSE NEIGHBOUR: 'it returns false'. Refute it at one input. -/
def treeGoneWrong : ChangeSpec := { name := "treeGone", fn := fun _ => fun
  | [d1, d2] => { results := [.lit (.bool false)], args := [d1, d2] }
  | _ => none }
def TreeGoneWrongFalsely : Prop := treeGoneRow.holds Try.pinned (OpenSpec.ofChange treeGoneWrong)

/-- 'ingotlaw07.TreeMaps': WHATEVER THE INPUT: true; the input reads as it did. -/
def treeMapsSpec : ChangeSpec := { name := "treeMaps", fn := fun _ => fun
  | [d] => { results := [.lit (.bool true)], args := [d] }
  | _ => none }
def treeMapsRow : OpenClaim := { program := "ytkmdehoofnlkbaa", sum := "6751744e685cf83dc23d1dd1925bd02eed7faf4953409badac1f4cf8f93fc888", func := "ingot/ingotlaw07.TreeMaps", spec := "treeMaps", unfollowed := true, recurses := true, apart := false }
def TreeMapsSaid : Prop := treeMapsRow.holds Try.pinned (OpenSpec.ofChange treeMapsSpec)

/-- ITS FALSE NEIGHBOUR: 'it returns false'. Refute it at one input. -/
def treeMapsWrong : ChangeSpec := { name := "treeMaps", fn := fun _ => fun
  | [d] => { results := [.lit (.bool false)], args := [d] }
  | _ => none }
def TreeMapsWrongFalsely : Prop := treeMapsRow.holds Try.pinned (OpenSpec.ofChange treeMapsWrong)

/-- 'ingotlaw07.TreeNobody': WHATEVER THE INPUT: true; the input reads as it did. -/
def treeNobodySpec : ChangeSpec := { name := "treeNobody", fn := fun _ => fun
  | [d1, d2] => { results := [.lit (.bool true)], args := [d1, d2] }
  | _ => none }
def treeNobodyRow : OpenClaim := { program := "ytkmdehoofnlkbaa", sum := "6751744e685cf83dc23d1dd1925bd02eed7faf4953409badac1f4cf8f93fc888", func := "ingot/ingotlaw07.TreeNobody", spec := "treeNobody", unfollowed := true, recurses := true, apart := false }
def TreeNobodySaid : Prop := treeNobodyRow.holds Try.pinned (OpenSpec.ofChange treeNobodySpec)

/-- ITS FALSE NEIGHBOUR: 'it returns false'. Refute it at one input. -/
def treeNobodyWrong : ChangeSpec := { name := "treeNobody", fn := fun _ => fun
  | [d1, d2] => { results := [.lit (.bool false)], args := [d1, d2] }
  | _ => none }
def TreeNobodyWrongFalsely : Prop := treeNobodyRow.holds Try.pinned (OpenSpec.ofChange treeNobodyWrong)

/- THE SECOND FORM. 'bulk': how many values and letters a reading holds, each counted each time it is reached (what is shared counts as often as it is met; a slice's spare places count too). A statement '..UptoSaid' is the law's where the arguments, and the package variables that the reading takes, are together of bulk at most 1048576: NARROWER than '..Said'. Prove '..Said' where nothing that the law and all that it calls make is longer than what came in: it says more and counts as full. Else prove '..UptoSaid'. A law counts once. -/
mutual
def uptoBulk {H : Type} : DataW H → Nat
  | .lit (.string bytes) => bytes.length + 1
  | .lit _ => 1
  | .nil => 1
  | .ptr d => uptoBulk d + 1
  | .slice elems spare => uptoBulkAll elems + uptoBulkAll spare + 1
  | .agg parts => uptoBulkAll parts + 1
  | .iface _ d => uptoBulk d + 1
  | .map entries => uptoBulkEntries entries + 1
  | .held _ => 1
def uptoBulkAll {H : Type} : List (DataW H) → Nat
  | [] => 0
  | d :: r => uptoBulk d + uptoBulkAll r
def uptoBulkEntries {H : Type} : List (Lit × DataW H) → Nat
  | [] => 0
  | x :: r => uptoBulkEntry x + uptoBulkEntries r
def uptoBulkEntry {H : Type} : Lit × DataW H → Nat
  | (.string bytes, d) => bytes.length + uptoBulk d + 1
  | (_, d) => uptoBulk d + 1
 end
def uptoSmall : (H : Type) → List (DataW H) → Bool := fun _ ds => decide (uptoBulkAll ds ≤ 1048576)
def OpenSpec.upto (s : _root_.Go.ChangeSpec) : _root_.Go.OpenSpec := { _root_.Go.OpenSpec.ofChange s with cond := some uptoSmall }

/-- 'ingotlaw07.TreeScans', WHERE WHAT IT READS IS OF BULK AT MOST 1048576: true; the input reads as it did. -/
def treeScansUptoRow : OpenClaim := { program := "ytkmdehoofnlkbaa", sum := "6751744e685cf83dc23d1dd1925bd02eed7faf4953409badac1f4cf8f93fc888", func := "ingot/ingotlaw07.TreeScans", spec := "treeScans", unfollowed := true, recurses := true, apart := false, narrowed := true }
def TreeScansUptoSaid : Prop := treeScansUptoRow.holds Try.pinned (OpenSpec.upto treeScansSpec)

/-- 'ingotlaw07.TreeShallow', WHERE WHAT IT READS IS OF BULK AT MOST 1048576: true; the input reads as it did. -/
def treeShallowUptoRow : OpenClaim := { program := "ytkmdehoofnlkbaa", sum := "6751744e685cf83dc23d1dd1925bd02eed7faf4953409badac1f4cf8f93fc888", func := "ingot/ingotlaw07.TreeShallow", spec := "treeShallow", unfollowed := true, recurses := true, apart := false, narrowed := true }
def TreeShallowUptoSaid : Prop := treeShallowUptoRow.holds Try.pinned (OpenSpec.upto treeShallowSpec)

/-- 'ingotlaw07.TreeGone', WHERE WHAT IT READS IS OF BULK AT MOST 1048576: true; the input reads as it did. -/
def treeGoneUptoRow : OpenClaim := { program := "ytkmdehoofnlkbaa", sum := "6751744e685cf83dc23d1dd1925bd02eed7faf4953409badac1f4cf8f93fc888", func := "ingot/ingotlaw07.TreeGone", spec := "treeGone", unfollowed := true, recurses := true, apart := false, narrowed := true }
def TreeGoneUptoSaid : Prop := treeGoneUptoRow.holds Try.pinned (OpenSpec.upto treeGoneSpec)

/-- 'ingotlaw07.TreeMaps', WHERE WHAT IT READS IS OF BULK AT MOST 1048576: true; the input reads as it did. -/
def treeMapsUptoRow : OpenClaim := { program := "ytkmdehoofnlkbaa", sum := "6751744e685cf83dc23d1dd1925bd02eed7faf4953409badac1f4cf8f93fc888", func := "ingot/ingotlaw07.TreeMaps", spec := "treeMaps", unfollowed := true, recurses := true, apart := false, narrowed := true }
def TreeMapsUptoSaid : Prop := treeMapsUptoRow.holds Try.pinned (OpenSpec.upto treeMapsSpec)

/-- 'ingotlaw07.TreeNobody', WHERE WHAT IT READS IS OF BULK AT MOST 1048576: true; the input reads as it did. -/
def treeNobodyUptoRow : OpenClaim := { program := "ytkmdehoofnlkbaa", sum := "6751744e685cf83dc23d1dd1925bd02eed7faf4953409badac1f4cf8f93fc888", func := "ingot/ingotlaw07.TreeNobody", spec := "treeNobody", unfollowed := true, recurses := true, apart := false, narrowed := true }
def TreeNobodyUptoSaid : Prop := treeNobodyUptoRow.holds Try.pinned (OpenSpec.upto treeNobodySpec)

end Rows
end Go.Proofs.Ytkmdehoofnlkbaa
