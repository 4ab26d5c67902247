/-
  No cell of these rows narrows 'for every input' (looked for: loops, veiled, ifaces, maps, wideKeys, modest, calm, conditions, laid).
  DERIVED. THE GIVEN ROWS OF THIS SEAT. 5 by the template 'for every input the law returns true; each argument reads behind the call as it read before'; 0 by the template 'total and deterministic' (their statements: YtnealcbmgflaaaaTotals.lean).
  GIVEN WITH THE SEED: the statements are not yours to turn. If you find one false, say at which input.
  Laid BY PROGRAM, IN A SANDBOX (cutbox-rows.mjs): the forced cells as the released guide's own fill.sh prints them over the translation e32e58bd7995937e… (all of the seat's roots in one cut). By AI agents, Wed Nov 11 2026. No macro, syntax, notation, axiom, sorry.
-/
import Derived.Test.YtnealcbmgflaaaaChecked
import GoSem.Claim
import GoSem.ClaimJoined
import GoSem.ClaimMapViews
import Derived.JoinedTies
import Derived.KernelRfl
namespace Go.Proofs.Ytnealcbmgflaaaa
/- THE CELL 'sum', in the pinned program and in every row, IS THE sha256 OF THE DUMP (.gsa) THAT YtnealcbmgflaaaaProg.lean LOADS. Nothing in Lean hashes anything: it is a label: what it is worth is what the hold of that sum in a sandbox is worth. -/
noncomputable def Try.pinned : Pinned := { name := "ytnealcbmgflaaaa", sum := "e32e58bd7995937e85ea2ad0e1a3de0f64f6a2d7cc2a3bf1bec126a98c6efc04", checked := Try.checked }
namespace Rows
def none {H : Type} : Left H := { results := [], args := [] }

/-- 'ingotlaw15.PeopleOwners': WHATEVER THE INPUT: true; the input reads as it did. -/
def peopleOwnersSpec : ChangeSpec := { name := "peopleOwners", fn := fun _ => fun
  | [d] => { results := [.lit (.bool true)], args := [d] }
  | _ => none }
def peopleOwnersRow : OpenClaim := { program := "ytnealcbmgflaaaa", sum := "e32e58bd7995937e85ea2ad0e1a3de0f64f6a2d7cc2a3bf1bec126a98c6efc04", func := "ingot/ingotlaw15.PeopleOwners", spec := "peopleOwners", unfollowed := true, recurses := true, apart := false }
def PeopleOwnersSaid : Prop := peopleOwnersRow.holds Try.pinned (OpenSpec.ofChange peopleOwnersSpec)

/-- ITS FALSE NEIGHBOUR: 'it returns false'. Refute it at one input. -/
def peopleOwnersWrong : ChangeSpec := { name := "peopleOwners", fn := fun _ => fun
  | [d] => { results := [.lit (.bool false)], args := [d] }
  | _ => none }
def PeopleOwnersWrongFalsely : Prop := peopleOwnersRow.holds Try.pinned (OpenSpec.ofChange peopleOwnersWrong)

/-- 'ingotlaw15.PeopleTeams': WHATEVER THE INPUT: true; the input reads as it did. -/
def peopleTeamsSpec : ChangeSpec := { name := "peopleTeams", fn := fun _ => fun
  | [d] => { results := [.lit (.bool true)], args := [d] }
  | _ => none }
def peopleTeamsRow : OpenClaim := { program := "ytnealcbmgflaaaa", sum := "e32e58bd7995937e85ea2ad0e1a3de0f64f6a2d7cc2a3bf1bec126a98c6efc04", func := "ingot/ingotlaw15.PeopleTeams", spec := "peopleTeams", unfollowed := true, recurses := true, apart := false }
def PeopleTeamsSaid : Prop := peopleTeamsRow.holds Try.pinned (OpenSpec.ofChange peopleTeamsSpec)

/-- ITS FALSE NEIGHBOUR: 'it returns false'. Refute it at one input. -/
def peopleTeamsWrong : ChangeSpec := { name := "peopleTeams", fn := fun _ => fun
  | [d] => { results := [.lit (.bool false)], args := [d] }
  | _ => none }
def PeopleTeamsWrongFalsely : Prop := peopleTeamsRow.holds Try.pinned (OpenSpec.ofChange peopleTeamsWrong)

/-- 'ingotlaw15.PeopleApart': WHATEVER THE INPUT: true; the input reads as it did. -/
def peopleApartSpec : ChangeSpec := { name := "peopleApart", fn := fun _ => fun
  | [d1, d2, d3] => { results := [.lit (.bool true)], args := [d1, d2, d3] }
  | _ => none }
def peopleApartRow : OpenClaim := { program := "ytnealcbmgflaaaa", sum := "e32e58bd7995937e85ea2ad0e1a3de0f64f6a2d7cc2a3bf1bec126a98c6efc04", func := "ingot/ingotlaw15.PeopleApart", spec := "peopleApart", unfollowed := true, recurses := true, apart := false }
def PeopleApartSaid : Prop := peopleApartRow.holds Try.pinned (OpenSpec.ofChange peopleApartSpec)

/-- ITS FALSE NEIGHBOUR: 'it returns false'. Refute it at one input. -/
def peopleApartWrong : ChangeSpec := { name := "peopleApart", fn := fun _ => fun
  | [d1, d2, d3] => { results := [.lit (.bool false)], args := [d1, d2, d3] }
  | _ => none }
def PeopleApartWrongFalsely : Prop := peopleApartRow.holds Try.pinned (OpenSpec.ofChange peopleApartWrong)

/-- 'ingotlaw15.PeoplePlays': WHATEVER THE INPUT: true; the input reads as it did. -/
def peoplePlaysSpec : ChangeSpec := { name := "peoplePlays", fn := fun _ => fun
  | [d] => { results := [.lit (.bool true)], args := [d] }
  | _ => none }
def peoplePlaysRow : OpenClaim := { program := "ytnealcbmgflaaaa", sum := "e32e58bd7995937e85ea2ad0e1a3de0f64f6a2d7cc2a3bf1bec126a98c6efc04", func := "ingot/ingotlaw15.PeoplePlays", spec := "peoplePlays", unfollowed := true, recurses := true, apart := false }
def PeoplePlaysSaid : Prop := peoplePlaysRow.holds Try.pinned (OpenSpec.ofChange peoplePlaysSpec)

/-- ITS FALSE NEIGHBOUR: 'it returns false'. Refute it at one input. -/
def peoplePlaysWrong : ChangeSpec := { name := "peoplePlays", fn := fun _ => fun
  | [d] => { results := [.lit (.bool false)], args := [d] }
  | _ => none }
def PeoplePlaysWrongFalsely : Prop := peoplePlaysRow.holds Try.pinned (OpenSpec.ofChange peoplePlaysWrong)

/-- 'ingotlaw15.PeopleNobody': WHATEVER THE INPUT: true; the input reads as it did. -/
def peopleNobodySpec : ChangeSpec := { name := "peopleNobody", fn := fun _ => fun
  | [d] => { results := [.lit (.bool true)], args := [d] }
  | _ => none }
def peopleNobodyRow : OpenClaim := { program := "ytnealcbmgflaaaa", sum := "e32e58bd7995937e85ea2ad0e1a3de0f64f6a2d7cc2a3bf1bec126a98c6efc04", func := "ingot/ingotlaw15.PeopleNobody", spec := "peopleNobody", unfollowed := true, recurses := true, apart := false }
def PeopleNobodySaid : Prop := peopleNobodyRow.holds Try.pinned (OpenSpec.ofChange peopleNobodySpec)

/-- ITS FALSE NEIGHBOUR: 'it returns false'. Refute it at one input. -/
def peopleNobodyWrong : ChangeSpec := { name := "peopleNobody", fn := fun _ => fun
  | [d] => { results := [.lit (.bool false)], args := [d] }
  | _ => none }
def PeopleNobodyWrongFalsely : Prop := peopleNobodyRow.holds Try.pinned (OpenSpec.ofChange peopleNobodyWrong)

/- THE SECOND FORM. 'bulk': how many values and letters a reading holds, each counted each time it is reached (what is shared counts as often as it is met; a slice's spare places count too). A statement '..UptoSaid' is the law's where the arguments, and the package variables that the reading takes, are together of bulk at most 1048576: NARROWER than '..Said'. Prove '..Said' where nothing that the law and all that it calls make is longer than what came in: it says more and counts as full. Else prove '..UptoSaid'. A law counts once. -/
mutual
def uptoBulk {H : Type} : DataW H → Nat
  | .lit (.string bytes) => bytes.length + 1
  | .lit _ => 1
  | .nil => 1
  | .ptr d => uptoBulk d + 1
  | .slice elems spare => uptoBulkAll elems + uptoBulkAll spare + 1
  | .agg parts => uptoBulkAll parts + 1
  | .iface _ d => uptoBulk d + 1
  | .map entries => uptoBulkEntries entries + 1
  | .held _ => 1
def uptoBulkAll {H : Type} : List (DataW H) → Nat
  | [] => 0
  | d :: r => uptoBulk d + uptoBulkAll r
def uptoBulkEntries {H : Type} : List (Lit × DataW H) → Nat
  | [] => 0
  | x :: r => uptoBulkEntry x + uptoBulkEntries r
def uptoBulkEntry {H : Type} : Lit × DataW H → Nat
  | (.string bytes, d) => bytes.length + uptoBulk d + 1
  | (_, d) => uptoBulk d + 1
 end
def uptoSmall : (H : Type) → List (DataW H) → Bool := fun _ ds => decide (uptoBulkAll ds ≤ 1048576)
def OpenSpec.upto (s : _root_.Go.ChangeSpec) : _root_.Go.OpenSpec := { _root_.Go.OpenSpec.ofChange s with cond := some uptoSmall }

/-- 'ingotlaw15.PeopleOwners', WHERE WHAT IT READS IS OF BULK AT MOST 1048576: true; the input reads as it did. -/
def peopleOwnersUptoRow : OpenClaim := { program := "ytnealcbmgflaaaa", sum := "e32e58bd7995937e85ea2ad0e1a3de0f64f6a2d7cc2a3bf1bec126a98c6efc04", func := "ingot/ingotlaw15.PeopleOwners", spec := "peopleOwners", unfollowed := true, recurses := true, apart := false, narrowed := true }
def PeopleOwnersUptoSaid : Prop := peopleOwnersUptoRow.holds Try.pinned (OpenSpec.upto peopleOwnersSpec)

/-- 'ingotlaw15.PeopleTeams', WHERE WHAT IT READS IS OF BULK AT MOST 1048576: true; the input reads as it did. -/
def peopleTeamsUptoRow : OpenClaim := { program := "ytnealcbmgflaaaa", sum := "e32e58bd7995937e85ea2ad0e1a3de0f64f6a2d7cc2a3bf1bec126a98c6efc04", func := "ingot/ingotlaw15.PeopleTeams", spec := "peopleTeams", unfollowed := true, recurses := true, apart := false, narrowed := true }
def PeopleTeamsUptoSaid : Prop := peopleTeamsUptoRow.holds Try.pinned (OpenSpec.upto peopleTeamsSpec)

/-- 'ingotlaw15.PeopleApart', WHERE WHAT IT READS IS OF BULK AT MOST 1048576: true; the input reads as it did. -/
def peopleApartUptoRow : OpenClaim := { program := "ytnealcbmgflaaaa", sum := "e32e58bd7995937e85ea2ad0e1a3de0f64f6a2d7cc2a3bf1bec126a98c6efc04", func := "ingot/ingotlaw15.PeopleApart", spec := "peopleApart", unfollowed := true, recurses := true, apart := false, narrowed := true }
def PeopleApartUptoSaid : Prop := peopleApartUptoRow.holds Try.pinned (OpenSpec.upto peopleApartSpec)

/-- 'ingotlaw15.PeoplePlays', WHERE WHAT IT READS IS OF BULK AT MOST 1048576: true; the input reads as it did. -/
def peoplePlaysUptoRow : OpenClaim := { program := "ytnealcbmgflaaaa", sum := "e32e58bd7995937e85ea2ad0e1a3de0f64f6a2d7cc2a3bf1bec126a98c6efc04", func := "ingot/ingotlaw15.PeoplePlays", spec := "peoplePlays", unfollowed := true, recurses := true, apart := false, narrowed := true }
def PeoplePlaysUptoSaid : Prop := peoplePlaysUptoRow.holds Try.pinned (OpenSpec.upto peoplePlaysSpec)

/-- 'ingotlaw15.PeopleNobody', WHERE WHAT IT READS IS OF BULK AT MOST 1048576: true; the input reads as it did. -/
def peopleNobodyUptoRow : OpenClaim := { program := "ytnealcbmgflaaaa", sum := "e32e58bd7995937e85ea2ad0e1a3de0f64f6a2d7cc2a3bf1bec126a98c6efc04", func := "ingot/ingotlaw15.PeopleNobody", spec := "peopleNobody", unfollowed := true, recurses := true, apart := false, narrowed := true }
def PeopleNobodyUptoSaid : Prop := peopleNobodyUptoRow.holds Try.pinned (OpenSpec.upto peopleNobodySpec)

end Rows
end Go.Proofs.Ytnealcbmgflaaaa
