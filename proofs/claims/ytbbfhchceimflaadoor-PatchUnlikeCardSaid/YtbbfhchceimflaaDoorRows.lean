/-
  NARROWER THAN 'FOR EVERY INPUT', by the rows' own cells (each row's printed sentence says how): PatchUnlike: laid · PatchEncodes: laid · PatchDecodes: laid · PatchCut: laid · PatchBack: laid · PatchChecks: laid.
  DERIVED. THE GIVEN ROWS OF THIS SEAT. 6 by the template 'for every input the law returns true; each argument reads behind the call as it read before'; 0 by the template 'total and deterministic' (their statements: YtbbfhchceimflaaDoorTotals.lean).
  GIVEN WITH THE SEED: the statements are not yours to turn. If you find one false, say at which input.
  Laid BY PROGRAM, IN A SANDBOX (cutbox-rows.mjs): the forced cells as the released guide's own fill.sh prints them over the translation 35f6860966c34890… (all of the seat's roots in one cut). By AI agents, Wed Nov 11 2026. No macro, syntax, notation, axiom, sorry.
-/
import Derived.Test.YtbbfhchceimflaaDoorChecked
import GoSem.Claim
import GoSem.ClaimJoined
import GoSem.ClaimMapViews
import Derived.JoinedTies
import Derived.KernelRfl
namespace Go.Proofs.YtbbfhchceimflaaDoor
/- THE CELL 'sum', in the pinned program and in every row, IS THE sha256 OF THE DUMP (.gsa) THAT YtbbfhchceimflaaDoorProg.lean LOADS. Nothing in Lean hashes anything: it is a label: what it is worth is what the hold of that sum in a sandbox is worth. -/
noncomputable def Tryd.pinned : Pinned := { name := "ytbbfhchceimflaadoor", sum := "35f6860966c3489057da5894024f0e36ad5726e7d077ad963f07ed036cd83233", checked := Tryd.checked }
namespace Rows
def none {H : Type} : Left H := { results := [], args := [] }

/- WHAT THE LISTED PACKAGE-LEVEL VARIABLES READ AS WHEN THE CALL BEGINS. Each datum BY PROGRAM (the guide's laid-datum.mjs) off the statement by which the dump's own 'gosem.cut.vars' lays the variable. In a bare row this is a premise. The card (YtbbfhchceimflaaDoorCards.lean) ties it to the program's text. -/
def laid_ingot_patch_bottom {H : Type} : DataW H := .agg [.agg [.lit (.int .u8 0), .lit (.int .u8 0), .lit (.int .u8 0), .lit (.int .u8 0), .lit (.int .u8 0), .lit (.int .u8 0), .lit (.int .u8 0), .lit (.int .u8 0), .lit (.int .u8 0), .lit (.int .u8 0), .lit (.int .u8 0), .lit (.int .u8 0), .lit (.int .u8 0), .lit (.int .u8 0), .lit (.int .u8 0), .lit (.int .u8 0), .lit (.int .u8 0), .lit (.int .u8 0), .lit (.int .u8 0), .lit (.int .u8 0), .lit (.int .u8 0), .lit (.int .u8 0), .lit (.int .u8 0), .lit (.int .u8 0), .lit (.int .u8 0), .lit (.int .u8 0), .lit (.int .u8 0), .lit (.int .u8 0), .lit (.int .u8 0), .lit (.int .u8 0), .lit (.int .u8 0), .lit (.int .u8 0)], .lit (.int .i64 1)]
def laid_ingot_hash_words {H : Type} : DataW H := .agg [.lit (.int .u32 1116352408), .lit (.int .u32 1899447441), .lit (.int .u32 3049323471), .lit (.int .u32 3921009573), .lit (.int .u32 961987163), .lit (.int .u32 1508970993), .lit (.int .u32 2453635748), .lit (.int .u32 2870763221), .lit (.int .u32 3624381080), .lit (.int .u32 310598401), .lit (.int .u32 607225278), .lit (.int .u32 1426881987), .lit (.int .u32 1925078388), .lit (.int .u32 2162078206), .lit (.int .u32 2614888103), .lit (.int .u32 3248222580), .lit (.int .u32 3835390401), .lit (.int .u32 4022224774), .lit (.int .u32 264347078), .lit (.int .u32 604807628), .lit (.int .u32 770255983), .lit (.int .u32 1249150122), .lit (.int .u32 1555081692), .lit (.int .u32 1996064986), .lit (.int .u32 2554220882), .lit (.int .u32 2821834349), .lit (.int .u32 2952996808), .lit (.int .u32 3210313671), .lit (.int .u32 3336571891), .lit (.int .u32 3584528711), .lit (.int .u32 113926993), .lit (.int .u32 338241895), .lit (.int .u32 666307205), .lit (.int .u32 773529912), .lit (.int .u32 1294757372), .lit (.int .u32 1396182291), .lit (.int .u32 1695183700), .lit (.int .u32 1986661051), .lit (.int .u32 2177026350), .lit (.int .u32 2456956037), .lit (.int .u32 2730485921), .lit (.int .u32 2820302411), .lit (.int .u32 3259730800), .lit (.int .u32 3345764771), .lit (.int .u32 3516065817), .lit (.int .u32 3600352804), .lit (.int .u32 4094571909), .lit (.int .u32 275423344), .lit (.int .u32 430227734), .lit (.int .u32 506948616), .lit (.int .u32 659060556), .lit (.int .u32 883997877), .lit (.int .u32 958139571), .lit (.int .u32 1322822218), .lit (.int .u32 1537002063), .lit (.int .u32 1747873779), .lit (.int .u32 1955562222), .lit (.int .u32 2024104815), .lit (.int .u32 2227730452), .lit (.int .u32 2361852424), .lit (.int .u32 2428436474), .lit (.int .u32 2756734187), .lit (.int .u32 3204031479), .lit (.int .u32 3329325298)]

/-- 'ingotlaw10.PatchUnlike': WHATEVER THE INPUT: true; the input reads as it did. -/
def patchUnlikeSpec : ChangeSpec := { name := "patchUnlike", fn := fun _ => fun
  | [d1, d2] => { results := [.lit (.bool true)], args := [d1, d2] }
  | _ => none }
def patchUnlikeRow : OpenClaim := { program := "ytbbfhchceimflaadoor", sum := "35f6860966c3489057da5894024f0e36ad5726e7d077ad963f07ed036cd83233", func := "ingot/ingotlaw10.PatchUnlike", spec := "patchUnlike", inPlace := ["internal/bytealg.Compare", "internal/bytealg.IndexByteString", "internal/bytealg.IndexString"], unfollowed := true, recurses := true, named := ["internal/bytealg.MaxLen", "ingot/patch.bottom"], apart := false, laid := [("ingot/patch.bottom", laid_ingot_patch_bottom)] }
def PatchUnlikeSaid : Prop := patchUnlikeRow.holds Tryd.pinned (OpenSpec.ofChange patchUnlikeSpec)

/-- ITS FALSE NEIGHBOUR: 'it returns false'. Refute it at one input. -/
def patchUnlikeWrong : ChangeSpec := { name := "patchUnlike", fn := fun _ => fun
  | [d1, d2] => { results := [.lit (.bool false)], args := [d1, d2] }
  | _ => none }
def PatchUnlikeWrongFalsely : Prop := patchUnlikeRow.holds Tryd.pinned (OpenSpec.ofChange patchUnlikeWrong)

/-- 'ingotlaw10.PatchEncodes': WHATEVER THE INPUT: true; the input reads as it did. -/
def patchEncodesSpec : ChangeSpec := { name := "patchEncodes", fn := fun _ => fun
  | [d] => { results := [.lit (.bool true)], args := [d] }
  | _ => none }
def patchEncodesRow : OpenClaim := { program := "ytbbfhchceimflaadoor", sum := "35f6860966c3489057da5894024f0e36ad5726e7d077ad963f07ed036cd83233", func := "ingot/ingotlaw10.PatchEncodes", spec := "patchEncodes", inPlace := ["internal/bytealg.Compare", "internal/bytealg.IndexByteString", "internal/bytealg.IndexString"], unfollowed := true, recurses := true, named := ["internal/bytealg.MaxLen", "ingot/patch.bottom", "ingot/hash.words"], apart := false, laid := [("ingot/hash.words", laid_ingot_hash_words), ("ingot/patch.bottom", laid_ingot_patch_bottom)] }
def PatchEncodesSaid : Prop := patchEncodesRow.holds Tryd.pinned (OpenSpec.ofChange patchEncodesSpec)

/-- ITS FALSE NEIGHBOUR: 'it returns false'. Refute it at one input. -/
def patchEncodesWrong : ChangeSpec := { name := "patchEncodes", fn := fun _ => fun
  | [d] => { results := [.lit (.bool false)], args := [d] }
  | _ => none }
def PatchEncodesWrongFalsely : Prop := patchEncodesRow.holds Tryd.pinned (OpenSpec.ofChange patchEncodesWrong)

/-- 'ingotlaw10.PatchDecodes': WHATEVER THE INPUT: true; the input reads as it did. -/
def patchDecodesSpec : ChangeSpec := { name := "patchDecodes", fn := fun _ => fun
  | [d] => { results := [.lit (.bool true)], args := [d] }
  | _ => none }
def patchDecodesRow : OpenClaim := { program := "ytbbfhchceimflaadoor", sum := "35f6860966c3489057da5894024f0e36ad5726e7d077ad963f07ed036cd83233", func := "ingot/ingotlaw10.PatchDecodes", spec := "patchDecodes", inPlace := ["internal/bytealg.Compare", "internal/bytealg.IndexByteString", "internal/bytealg.IndexString"], unfollowed := true, recurses := true, named := ["internal/bytealg.MaxLen", "ingot/patch.bottom"], apart := false, laid := [("ingot/patch.bottom", laid_ingot_patch_bottom)] }
def PatchDecodesSaid : Prop := patchDecodesRow.holds Tryd.pinned (OpenSpec.ofChange patchDecodesSpec)

/-- ITS FALSE NEIGHBOUR: 'it returns false'. Refute it at one input. -/
def patchDecodesWrong : ChangeSpec := { name := "patchDecodes", fn := fun _ => fun
  | [d] => { results := [.lit (.bool false)], args := [d] }
  | _ => none }
def PatchDecodesWrongFalsely : Prop := patchDecodesRow.holds Tryd.pinned (OpenSpec.ofChange patchDecodesWrong)

/-- 'ingotlaw10.PatchCut': WHATEVER THE INPUT: true; the input reads as it did. -/
def patchCutSpec : ChangeSpec := { name := "patchCut", fn := fun _ => fun
  | [d1, d2, d3] => { results := [.lit (.bool true)], args := [d1, d2, d3] }
  | _ => none }
def patchCutRow : OpenClaim := { program := "ytbbfhchceimflaadoor", sum := "35f6860966c3489057da5894024f0e36ad5726e7d077ad963f07ed036cd83233", func := "ingot/ingotlaw10.PatchCut", spec := "patchCut", inPlace := ["internal/bytealg.Compare", "internal/bytealg.IndexByteString", "internal/bytealg.IndexString"], unfollowed := true, recurses := true, named := ["internal/bytealg.MaxLen", "ingot/patch.bottom"], apart := false, laid := [("ingot/patch.bottom", laid_ingot_patch_bottom)] }
def PatchCutSaid : Prop := patchCutRow.holds Tryd.pinned (OpenSpec.ofChange patchCutSpec)

/-- ITS FALSE NEIGHBOUR: 'it returns false'. Refute it at one input. -/
def patchCutWrong : ChangeSpec := { name := "patchCut", fn := fun _ => fun
  | [d1, d2, d3] => { results := [.lit (.bool false)], args := [d1, d2, d3] }
  | _ => none }
def PatchCutWrongFalsely : Prop := patchCutRow.holds Tryd.pinned (OpenSpec.ofChange patchCutWrong)

/-- 'ingotlaw10.PatchBack': WHATEVER THE INPUT: true; the input reads as it did. -/
def patchBackSpec : ChangeSpec := { name := "patchBack", fn := fun _ => fun
  | [d1, d2] => { results := [.lit (.bool true)], args := [d1, d2] }
  | _ => none }
def patchBackRow : OpenClaim := { program := "ytbbfhchceimflaadoor", sum := "35f6860966c3489057da5894024f0e36ad5726e7d077ad963f07ed036cd83233", func := "ingot/ingotlaw10.PatchBack", spec := "patchBack", inPlace := ["internal/bytealg.Compare", "internal/bytealg.IndexByteString", "internal/bytealg.IndexString"], unfollowed := true, recurses := true, named := ["internal/bytealg.MaxLen", "ingot/patch.bottom", "ingot/hash.words"], apart := false, laid := [("ingot/hash.words", laid_ingot_hash_words), ("ingot/patch.bottom", laid_ingot_patch_bottom)] }
def PatchBackSaid : Prop := patchBackRow.holds Tryd.pinned (OpenSpec.ofChange patchBackSpec)

/-- ITS FALSE NEIGHBOUR: 'it returns false'. Refute it at one input. -/
def patchBackWrong : ChangeSpec := { name := "patchBack", fn := fun _ => fun
  | [d1, d2] => { results := [.lit (.bool false)], args := [d1, d2] }
  | _ => none }
def PatchBackWrongFalsely : Prop := patchBackRow.holds Tryd.pinned (OpenSpec.ofChange patchBackWrong)

/-- 'ingotlaw10.PatchChecks': WHATEVER THE INPUT: true; the input reads as it did. -/
def patchChecksSpec : ChangeSpec := { name := "patchChecks", fn := fun _ => fun
  | [d] => { results := [.lit (.bool true)], args := [d] }
  | _ => none }
def patchChecksRow : OpenClaim := { program := "ytbbfhchceimflaadoor", sum := "35f6860966c3489057da5894024f0e36ad5726e7d077ad963f07ed036cd83233", func := "ingot/ingotlaw10.PatchChecks", spec := "patchChecks", inPlace := ["internal/bytealg.Compare", "internal/bytealg.IndexByteString", "internal/bytealg.IndexString"], unfollowed := true, recurses := true, named := ["internal/bytealg.MaxLen", "ingot/patch.bottom"], apart := false, laid := [("ingot/patch.bottom", laid_ingot_patch_bottom)] }
def PatchChecksSaid : Prop := patchChecksRow.holds Tryd.pinned (OpenSpec.ofChange patchChecksSpec)

/-- ITS FALSE NEIGHBOUR: 'it returns false'. Refute it at one input. -/
def patchChecksWrong : ChangeSpec := { name := "patchChecks", fn := fun _ => fun
  | [d] => { results := [.lit (.bool false)], args := [d] }
  | _ => none }
def PatchChecksWrongFalsely : Prop := patchChecksRow.holds Tryd.pinned (OpenSpec.ofChange patchChecksWrong)

/- THE SECOND FORM. 'bulk': how many values and letters a reading holds, each counted each time it is reached (what is shared counts as often as it is met; a slice's spare places count too). A statement '..UptoSaid' is the law's where the arguments, and the package variables that the reading takes, are together of bulk at most 1048576: NARROWER than '..Said'. Prove '..Said' where nothing that the law and all that it calls make is longer than what came in: it says more and counts as full. Else prove '..UptoSaid'. A law counts once. -/
mutual
def uptoBulk {H : Type} : DataW H → Nat
  | .lit (.string bytes) => bytes.length + 1
  | .lit _ => 1
  | .nil => 1
  | .ptr d => uptoBulk d + 1
  | .slice elems spare => uptoBulkAll elems + uptoBulkAll spare + 1
  | .agg parts => uptoBulkAll parts + 1
  | .iface _ d => uptoBulk d + 1
  | .map entries => uptoBulkEntries entries + 1
  | .held _ => 1
def uptoBulkAll {H : Type} : List (DataW H) → Nat
  | [] => 0
  | d :: r => uptoBulk d + uptoBulkAll r
def uptoBulkEntries {H : Type} : List (Lit × DataW H) → Nat
  | [] => 0
  | x :: r => uptoBulkEntry x + uptoBulkEntries r
def uptoBulkEntry {H : Type} : Lit × DataW H → Nat
  | (.string bytes, d) => bytes.length + uptoBulk d + 1
  | (_, d) => uptoBulk d + 1
 end
def uptoSmall : (H : Type) → List (DataW H) → Bool := fun _ ds => decide (uptoBulkAll ds ≤ 1048576)
def OpenSpec.upto (s : _root_.Go.ChangeSpec) : _root_.Go.OpenSpec := { _root_.Go.OpenSpec.ofChange s with cond := some uptoSmall }

/-- 'ingotlaw10.PatchUnlike', WHERE WHAT IT READS IS OF BULK AT MOST 1048576: true; the input reads as it did. -/
def patchUnlikeUptoRow : OpenClaim := { program := "ytbbfhchceimflaadoor", sum := "35f6860966c3489057da5894024f0e36ad5726e7d077ad963f07ed036cd83233", func := "ingot/ingotlaw10.PatchUnlike", spec := "patchUnlike", inPlace := ["internal/bytealg.Compare", "internal/bytealg.IndexByteString", "internal/bytealg.IndexString"], unfollowed := true, recurses := true, named := ["internal/bytealg.MaxLen", "ingot/patch.bottom"], apart := false, laid := [("ingot/patch.bottom", laid_ingot_patch_bottom)], narrowed := true }
def PatchUnlikeUptoSaid : Prop := patchUnlikeUptoRow.holds Tryd.pinned (OpenSpec.upto patchUnlikeSpec)

/-- 'ingotlaw10.PatchEncodes', WHERE WHAT IT READS IS OF BULK AT MOST 1048576: true; the input reads as it did. -/
def patchEncodesUptoRow : OpenClaim := { program := "ytbbfhchceimflaadoor", sum := "35f6860966c3489057da5894024f0e36ad5726e7d077ad963f07ed036cd83233", func := "ingot/ingotlaw10.PatchEncodes", spec := "patchEncodes", inPlace := ["internal/bytealg.Compare", "internal/bytealg.IndexByteString", "internal/bytealg.IndexString"], unfollowed := true, recurses := true, named := ["internal/bytealg.MaxLen", "ingot/patch.bottom", "ingot/hash.words"], apart := false, laid := [("ingot/hash.words", laid_ingot_hash_words), ("ingot/patch.bottom", laid_ingot_patch_bottom)], narrowed := true }
def PatchEncodesUptoSaid : Prop := patchEncodesUptoRow.holds Tryd.pinned (OpenSpec.upto patchEncodesSpec)

/-- 'ingotlaw10.PatchDecodes', WHERE WHAT IT READS IS OF BULK AT MOST 1048576: true; the input reads as it did. -/
def patchDecodesUptoRow : OpenClaim := { program := "ytbbfhchceimflaadoor", sum := "35f6860966c3489057da5894024f0e36ad5726e7d077ad963f07ed036cd83233", func := "ingot/ingotlaw10.PatchDecodes", spec := "patchDecodes", inPlace := ["internal/bytealg.Compare", "internal/bytealg.IndexByteString", "internal/bytealg.IndexString"], unfollowed := true, recurses := true, named := ["internal/bytealg.MaxLen", "ingot/patch.bottom"], apart := false, laid := [("ingot/patch.bottom", laid_ingot_patch_bottom)], narrowed := true }
def PatchDecodesUptoSaid : Prop := patchDecodesUptoRow.holds Tryd.pinned (OpenSpec.upto patchDecodesSpec)

/-- 'ingotlaw10.PatchCut', WHERE WHAT IT READS IS OF BULK AT MOST 1048576: true; the input reads as it did. -/
def patchCutUptoRow : OpenClaim := { program := "ytbbfhchceimflaadoor", sum := "35f6860966c3489057da5894024f0e36ad5726e7d077ad963f07ed036cd83233", func := "ingot/ingotlaw10.PatchCut", spec := "patchCut", inPlace := ["internal/bytealg.Compare", "internal/bytealg.IndexByteString", "internal/bytealg.IndexString"], unfollowed := true, recurses := true, named := ["internal/bytealg.MaxLen", "ingot/patch.bottom"], apart := false, laid := [("ingot/patch.bottom", laid_ingot_patch_bottom)], narrowed := true }
def PatchCutUptoSaid : Prop := patchCutUptoRow.holds Tryd.pinned (OpenSpec.upto patchCutSpec)

/-- 'ingotlaw10.PatchBack', WHERE WHAT IT READS IS OF BULK AT MOST 1048576: true; the input reads as it did. -/
def patchBackUptoRow : OpenClaim := { program := "ytbbfhchceimflaadoor", sum := "35f6860966c3489057da5894024f0e36ad5726e7d077ad963f07ed036cd83233", func := "ingot/ingotlaw10.PatchBack", spec := "patchBack", inPlace := ["internal/bytealg.Compare", "internal/bytealg.IndexByteString", "internal/bytealg.IndexString"], unfollowed := true, recurses := true, named := ["internal/bytealg.MaxLen", "ingot/patch.bottom", "ingot/hash.words"], apart := false, laid := [("ingot/hash.words", laid_ingot_hash_words), ("ingot/patch.bottom", laid_ingot_patch_bottom)], narrowed := true }
def PatchBackUptoSaid : Prop := patchBackUptoRow.holds Tryd.pinned (OpenSpec.upto patchBackSpec)

/-- 'ingotlaw10.PatchChecks', WHERE WHAT IT READS IS OF BULK AT MOST 1048576: true; the input reads as it did. -/
def patchChecksUptoRow : OpenClaim := { program := "ytbbfhchceimflaadoor", sum := "35f6860966c3489057da5894024f0e36ad5726e7d077ad963f07ed036cd83233", func := "ingot/ingotlaw10.PatchChecks", spec := "patchChecks", inPlace := ["internal/bytealg.Compare", "internal/bytealg.IndexByteString", "internal/bytealg.IndexString"], unfollowed := true, recurses := true, named := ["internal/bytealg.MaxLen", "ingot/patch.bottom"], apart := false, laid := [("ingot/patch.bottom", laid_ingot_patch_bottom)], narrowed := true }
def PatchChecksUptoSaid : Prop := patchChecksUptoRow.holds Tryd.pinned (OpenSpec.upto patchChecksSpec)

end Rows
end Go.Proofs.YtbbfhchceimflaaDoor
