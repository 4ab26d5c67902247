/-
  NARROWER THAN 'FOR EVERY INPUT', by the rows' own cells (each row's printed sentence says how): ChannelOrders: laid · ChannelNeeds: laid · ChannelPlays: laid · ChannelNobody: laid.
  DERIVED. THE GIVEN ROWS OF THIS SEAT. 4 by the template 'for every input the law returns true; each argument reads behind the call as it read before'; 0 by the template 'total and deterministic' (their statements: YtabbonafljochaaGreatDoorTotals.lean).
  GIVEN WITH THE SEED: the statements are not yours to turn. If you find one false, say at which input.
  Laid BY PROGRAM, IN A SANDBOX (cutbox-rows.mjs): the forced cells as the released guide's own fill.sh prints them over the translation 8e33fae34ded3b93… (all of the seat's roots in one cut). By AI agents, Wed Nov 11 2026. No macro, syntax, notation, axiom, sorry.
-/
import Derived.Test.YtabbonafljochaaGreatDoorChecked
import GoSem.Claim
import GoSem.ClaimJoined
import GoSem.ClaimMapViews
import Derived.JoinedTies
import Derived.KernelRfl
namespace Go.Proofs.YtabbonafljochaaGreatDoor
/- THE CELL 'sum', in the pinned program and in every row, IS THE sha256 OF THE DUMP (.gsa) THAT YtabbonafljochaaGreatDoorProg.lean LOADS. Nothing in Lean hashes anything: it is a label: what it is worth is what the hold of that sum in a sandbox is worth. -/
noncomputable def Tryz.pinned : Pinned := { name := "ytabbonafljochaagreatdoor", sum := "8e33fae34ded3b937b5ea3d2e92b86f82a8d63995334d2ddea7c150958b09d61", checked := Tryz.checked }
namespace Rows
def none {H : Type} : Left H := { results := [], args := [] }

/- WHAT THE LISTED PACKAGE-LEVEL VARIABLES READ AS WHEN THE CALL BEGINS. Each datum BY PROGRAM (the guide's laid-datum.mjs) off the statement by which the dump's own 'gosem.cut.vars' lays the variable. In a bare row this is a premise. The card (YtabbonafljochaaGreatDoorCards.lean) ties it to the program's text. -/
def laid_ingot_hash_words {H : Type} : DataW H := .agg [.lit (.int .u32 1116352408), .lit (.int .u32 1899447441), .lit (.int .u32 3049323471), .lit (.int .u32 3921009573), .lit (.int .u32 961987163), .lit (.int .u32 1508970993), .lit (.int .u32 2453635748), .lit (.int .u32 2870763221), .lit (.int .u32 3624381080), .lit (.int .u32 310598401), .lit (.int .u32 607225278), .lit (.int .u32 1426881987), .lit (.int .u32 1925078388), .lit (.int .u32 2162078206), .lit (.int .u32 2614888103), .lit (.int .u32 3248222580), .lit (.int .u32 3835390401), .lit (.int .u32 4022224774), .lit (.int .u32 264347078), .lit (.int .u32 604807628), .lit (.int .u32 770255983), .lit (.int .u32 1249150122), .lit (.int .u32 1555081692), .lit (.int .u32 1996064986), .lit (.int .u32 2554220882), .lit (.int .u32 2821834349), .lit (.int .u32 2952996808), .lit (.int .u32 3210313671), .lit (.int .u32 3336571891), .lit (.int .u32 3584528711), .lit (.int .u32 113926993), .lit (.int .u32 338241895), .lit (.int .u32 666307205), .lit (.int .u32 773529912), .lit (.int .u32 1294757372), .lit (.int .u32 1396182291), .lit (.int .u32 1695183700), .lit (.int .u32 1986661051), .lit (.int .u32 2177026350), .lit (.int .u32 2456956037), .lit (.int .u32 2730485921), .lit (.int .u32 2820302411), .lit (.int .u32 3259730800), .lit (.int .u32 3345764771), .lit (.int .u32 3516065817), .lit (.int .u32 3600352804), .lit (.int .u32 4094571909), .lit (.int .u32 275423344), .lit (.int .u32 430227734), .lit (.int .u32 506948616), .lit (.int .u32 659060556), .lit (.int .u32 883997877), .lit (.int .u32 958139571), .lit (.int .u32 1322822218), .lit (.int .u32 1537002063), .lit (.int .u32 1747873779), .lit (.int .u32 1955562222), .lit (.int .u32 2024104815), .lit (.int .u32 2227730452), .lit (.int .u32 2361852424), .lit (.int .u32 2428436474), .lit (.int .u32 2756734187), .lit (.int .u32 3204031479), .lit (.int .u32 3329325298)]
def laid_ingot_lines_bottom {H : Type} : DataW H := .agg [.agg [.lit (.int .u8 0), .lit (.int .u8 0), .lit (.int .u8 0), .lit (.int .u8 0), .lit (.int .u8 0), .lit (.int .u8 0), .lit (.int .u8 0), .lit (.int .u8 0), .lit (.int .u8 0), .lit (.int .u8 0), .lit (.int .u8 0), .lit (.int .u8 0), .lit (.int .u8 0), .lit (.int .u8 0), .lit (.int .u8 0), .lit (.int .u8 0), .lit (.int .u8 0), .lit (.int .u8 0), .lit (.int .u8 0), .lit (.int .u8 0), .lit (.int .u8 0), .lit (.int .u8 0), .lit (.int .u8 0), .lit (.int .u8 0), .lit (.int .u8 0), .lit (.int .u8 0), .lit (.int .u8 0), .lit (.int .u8 0), .lit (.int .u8 0), .lit (.int .u8 0), .lit (.int .u8 0), .lit (.int .u8 0)], .lit (.int .i64 1)]
def laid_ingot_patch_bottom {H : Type} : DataW H := .agg [.agg [.lit (.int .u8 0), .lit (.int .u8 0), .lit (.int .u8 0), .lit (.int .u8 0), .lit (.int .u8 0), .lit (.int .u8 0), .lit (.int .u8 0), .lit (.int .u8 0), .lit (.int .u8 0), .lit (.int .u8 0), .lit (.int .u8 0), .lit (.int .u8 0), .lit (.int .u8 0), .lit (.int .u8 0), .lit (.int .u8 0), .lit (.int .u8 0), .lit (.int .u8 0), .lit (.int .u8 0), .lit (.int .u8 0), .lit (.int .u8 0), .lit (.int .u8 0), .lit (.int .u8 0), .lit (.int .u8 0), .lit (.int .u8 0), .lit (.int .u8 0), .lit (.int .u8 0), .lit (.int .u8 0), .lit (.int .u8 0), .lit (.int .u8 0), .lit (.int .u8 0), .lit (.int .u8 0), .lit (.int .u8 0)], .lit (.int .i64 1)]

/-- 'ingotlaw13.ChannelOrders': WHATEVER THE INPUT: true; the input reads as it did. -/
def channelOrdersSpec : ChangeSpec := { name := "channelOrders", fn := fun _ => fun
  | [d1, d2] => { results := [.lit (.bool true)], args := [d1, d2] }
  | _ => none }
def channelOrdersRow : OpenClaim := { program := "ytabbonafljochaagreatdoor", sum := "8e33fae34ded3b937b5ea3d2e92b86f82a8d63995334d2ddea7c150958b09d61", func := "ingot/ingotlaw13.ChannelOrders", spec := "channelOrders", inPlace := ["internal/bytealg.Compare", "internal/bytealg.IndexByteString", "internal/bytealg.IndexString", "maps.clone"], unfollowed := true, recurses := true, named := ["internal/bytealg.MaxLen", "ingot/patch.bottom", "ingot/hash.words", "ingot/lines.bottom"], plainKeys := false, apart := false, laid := [("ingot/hash.words", laid_ingot_hash_words), ("ingot/lines.bottom", laid_ingot_lines_bottom), ("ingot/patch.bottom", laid_ingot_patch_bottom)] }
def ChannelOrdersSaid : Prop := channelOrdersRow.holds Tryz.pinned (OpenSpec.ofChange channelOrdersSpec)

/-- ITS FALSE NEIGHBOUR: 'it returns false'. Refute it at one input. -/
def channelOrdersWrong : ChangeSpec := { name := "channelOrders", fn := fun _ => fun
  | [d1, d2] => { results := [.lit (.bool false)], args := [d1, d2] }
  | _ => none }
def ChannelOrdersWrongFalsely : Prop := channelOrdersRow.holds Tryz.pinned (OpenSpec.ofChange channelOrdersWrong)

/-- 'ingotlaw13.ChannelNeeds': WHATEVER THE INPUT: true; the input reads as it did. -/
def channelNeedsSpec : ChangeSpec := { name := "channelNeeds", fn := fun _ => fun
  | [d] => { results := [.lit (.bool true)], args := [d] }
  | _ => none }
def channelNeedsRow : OpenClaim := { program := "ytabbonafljochaagreatdoor", sum := "8e33fae34ded3b937b5ea3d2e92b86f82a8d63995334d2ddea7c150958b09d61", func := "ingot/ingotlaw13.ChannelNeeds", spec := "channelNeeds", inPlace := ["internal/bytealg.Compare", "internal/bytealg.IndexByteString", "internal/bytealg.IndexString", "maps.clone"], unfollowed := true, recurses := true, named := ["internal/bytealg.MaxLen", "ingot/patch.bottom", "ingot/hash.words", "ingot/lines.bottom"], plainKeys := false, apart := false, laid := [("ingot/hash.words", laid_ingot_hash_words), ("ingot/lines.bottom", laid_ingot_lines_bottom), ("ingot/patch.bottom", laid_ingot_patch_bottom)] }
def ChannelNeedsSaid : Prop := channelNeedsRow.holds Tryz.pinned (OpenSpec.ofChange channelNeedsSpec)

/-- ITS FALSE NEIGHBOUR: 'it returns false'. Refute it at one input. -/
def channelNeedsWrong : ChangeSpec := { name := "channelNeeds", fn := fun _ => fun
  | [d] => { results := [.lit (.bool false)], args := [d] }
  | _ => none }
def ChannelNeedsWrongFalsely : Prop := channelNeedsRow.holds Tryz.pinned (OpenSpec.ofChange channelNeedsWrong)

/-- 'ingotlaw13.ChannelPlays': WHATEVER THE INPUT: true; the input reads as it did. -/
def channelPlaysSpec : ChangeSpec := { name := "channelPlays", fn := fun _ => fun
  | [d] => { results := [.lit (.bool true)], args := [d] }
  | _ => none }
def channelPlaysRow : OpenClaim := { program := "ytabbonafljochaagreatdoor", sum := "8e33fae34ded3b937b5ea3d2e92b86f82a8d63995334d2ddea7c150958b09d61", func := "ingot/ingotlaw13.ChannelPlays", spec := "channelPlays", inPlace := ["internal/bytealg.Compare", "internal/bytealg.IndexByteString", "internal/bytealg.IndexString", "maps.clone"], unfollowed := true, recurses := true, named := ["internal/bytealg.MaxLen", "ingot/patch.bottom", "ingot/hash.words", "ingot/lines.bottom"], plainKeys := false, apart := false, laid := [("ingot/hash.words", laid_ingot_hash_words), ("ingot/lines.bottom", laid_ingot_lines_bottom), ("ingot/patch.bottom", laid_ingot_patch_bottom)] }
def ChannelPlaysSaid : Prop := channelPlaysRow.holds Tryz.pinned (OpenSpec.ofChange channelPlaysSpec)

/-- ITS FALSE NEIGHBOUR: 'it returns false'. Refute it at one input. -/
def channelPlaysWrong : ChangeSpec := { name := "channelPlays", fn := fun _ => fun
  | [d] => { results := [.lit (.bool false)], args := [d] }
  | _ => none }
def ChannelPlaysWrongFalsely : Prop := channelPlaysRow.holds Tryz.pinned (OpenSpec.ofChange channelPlaysWrong)

/-- 'ingotlaw13.ChannelNobody': WHATEVER THE INPUT: true; the input reads as it did. -/
def channelNobodySpec : ChangeSpec := { name := "channelNobody", fn := fun _ => fun
  | [d1, d2] => { results := [.lit (.bool true)], args := [d1, d2] }
  | _ => none }
def channelNobodyRow : OpenClaim := { program := "ytabbonafljochaagreatdoor", sum := "8e33fae34ded3b937b5ea3d2e92b86f82a8d63995334d2ddea7c150958b09d61", func := "ingot/ingotlaw13.ChannelNobody", spec := "channelNobody", inPlace := ["internal/bytealg.Compare", "internal/bytealg.IndexByteString", "internal/bytealg.IndexString", "maps.clone"], unfollowed := true, recurses := true, named := ["internal/bytealg.MaxLen", "ingot/patch.bottom", "ingot/hash.words", "ingot/lines.bottom"], plainKeys := false, apart := false, laid := [("ingot/hash.words", laid_ingot_hash_words), ("ingot/lines.bottom", laid_ingot_lines_bottom), ("ingot/patch.bottom", laid_ingot_patch_bottom)] }
def ChannelNobodySaid : Prop := channelNobodyRow.holds Tryz.pinned (OpenSpec.ofChange channelNobodySpec)

/-- ITS FALSE NEIGHBOUR: 'it returns false'. Refute it at one input. -/
def channelNobodyWrong : ChangeSpec := { name := "channelNobody", fn := fun _ => fun
  | [d1, d2] => { results := [.lit (.bool false)], args := [d1, d2] }
  | _ => none }
def ChannelNobodyWrongFalsely : Prop := channelNobodyRow.holds Tryz.pinned (OpenSpec.ofChange channelNobodyWrong)

/- THE SECOND FORM. 'bulk': how many values and letters a reading holds, each counted each time it is reached (what is shared counts as often as it is met; a slice's spare places count too). A statement '..UptoSaid' is the law's where the arguments, and the package variables that the reading takes, are together of bulk at most 1048576: NARROWER than '..Said'. Prove '..Said' where nothing that the law and all that it calls make is longer than what came in: it says more and counts as full. Else prove '..UptoSaid'. A law counts once. -/
mutual
def uptoBulk {H : Type} : DataW H → Nat
  | .lit (.string bytes) => bytes.length + 1
  | .lit _ => 1
  | .nil => 1
  | .ptr d => uptoBulk d + 1
  | .slice elems spare => uptoBulkAll elems + uptoBulkAll spare + 1
  | .agg parts => uptoBulkAll parts + 1
  | .iface _ d => uptoBulk d + 1
  | .map entries => uptoBulkEntries entries + 1
  | .held _ => 1
def uptoBulkAll {H : Type} : List (DataW H) → Nat
  | [] => 0
  | d :: r => uptoBulk d + uptoBulkAll r
def uptoBulkEntries {H : Type} : List (Lit × DataW H) → Nat
  | [] => 0
  | x :: r => uptoBulkEntry x + uptoBulkEntries r
def uptoBulkEntry {H : Type} : Lit × DataW H → Nat
  | (.string bytes, d) => bytes.length + uptoBulk d + 1
  | (_, d) => uptoBulk d + 1
 end
def uptoSmall : (H : Type) → List (DataW H) → Bool := fun _ ds => decide (uptoBulkAll ds ≤ 1048576)
def OpenSpec.upto (s : _root_.Go.ChangeSpec) : _root_.Go.OpenSpec := { _root_.Go.OpenSpec.ofChange s with cond := some uptoSmall }

/-- 'ingotlaw13.ChannelOrders', WHERE WHAT IT READS IS OF BULK AT MOST 1048576: true; the input reads as it did. -/
def channelOrdersUptoRow : OpenClaim := { program := "ytabbonafljochaagreatdoor", sum := "8e33fae34ded3b937b5ea3d2e92b86f82a8d63995334d2ddea7c150958b09d61", func := "ingot/ingotlaw13.ChannelOrders", spec := "channelOrders", inPlace := ["internal/bytealg.Compare", "internal/bytealg.IndexByteString", "internal/bytealg.IndexString", "maps.clone"], unfollowed := true, recurses := true, named := ["internal/bytealg.MaxLen", "ingot/patch.bottom", "ingot/hash.words", "ingot/lines.bottom"], plainKeys := false, apart := false, laid := [("ingot/hash.words", laid_ingot_hash_words), ("ingot/lines.bottom", laid_ingot_lines_bottom), ("ingot/patch.bottom", laid_ingot_patch_bottom)], narrowed := true }
def ChannelOrdersUptoSaid : Prop := channelOrdersUptoRow.holds Tryz.pinned (OpenSpec.upto channelOrdersSpec)

/-- 'ingotlaw13.ChannelNeeds', WHERE WHAT IT READS IS OF BULK AT MOST 1048576: true; the input reads as it did. -/
def channelNeedsUptoRow : OpenClaim := { program := "ytabbonafljochaagreatdoor", sum := "8e33fae34ded3b937b5ea3d2e92b86f82a8d63995334d2ddea7c150958b09d61", func := "ingot/ingotlaw13.ChannelNeeds", spec := "channelNeeds", inPlace := ["internal/bytealg.Compare", "internal/bytealg.IndexByteString", "internal/bytealg.IndexString", "maps.clone"], unfollowed := true, recurses := true, named := ["internal/bytealg.MaxLen", "ingot/patch.bottom", "ingot/hash.words", "ingot/lines.bottom"], plainKeys := false, apart := false, laid := [("ingot/hash.words", laid_ingot_hash_words), ("ingot/lines.bottom", laid_ingot_lines_bottom), ("ingot/patch.bottom", laid_ingot_patch_bottom)], narrowed := true }
def ChannelNeedsUptoSaid : Prop := channelNeedsUptoRow.holds Tryz.pinned (OpenSpec.upto channelNeedsSpec)

/-- 'ingotlaw13.ChannelPlays', WHERE WHAT IT READS IS OF BULK AT MOST 1048576: true; the input reads as it did. -/
def channelPlaysUptoRow : OpenClaim := { program := "ytabbonafljochaagreatdoor", sum := "8e33fae34ded3b937b5ea3d2e92b86f82a8d63995334d2ddea7c150958b09d61", func := "ingot/ingotlaw13.ChannelPlays", spec := "channelPlays", inPlace := ["internal/bytealg.Compare", "internal/bytealg.IndexByteString", "internal/bytealg.IndexString", "maps.clone"], unfollowed := true, recurses := true, named := ["internal/bytealg.MaxLen", "ingot/patch.bottom", "ingot/hash.words", "ingot/lines.bottom"], plainKeys := false, apart := false, laid := [("ingot/hash.words", laid_ingot_hash_words), ("ingot/lines.bottom", laid_ingot_lines_bottom), ("ingot/patch.bottom", laid_ingot_patch_bottom)], narrowed := true }
def ChannelPlaysUptoSaid : Prop := channelPlaysUptoRow.holds Tryz.pinned (OpenSpec.upto channelPlaysSpec)

/-- 'ingotlaw13.ChannelNobody', WHERE WHAT IT READS IS OF BULK AT MOST 1048576: true; the input reads as it did. -/
def channelNobodyUptoRow : OpenClaim := { program := "ytabbonafljochaagreatdoor", sum := "8e33fae34ded3b937b5ea3d2e92b86f82a8d63995334d2ddea7c150958b09d61", func := "ingot/ingotlaw13.ChannelNobody", spec := "channelNobody", inPlace := ["internal/bytealg.Compare", "internal/bytealg.IndexByteString", "internal/bytealg.IndexString", "maps.clone"], unfollowed := true, recurses := true, named := ["internal/bytealg.MaxLen", "ingot/patch.bottom", "ingot/hash.words", "ingot/lines.bottom"], plainKeys := false, apart := false, laid := [("ingot/hash.words", laid_ingot_hash_words), ("ingot/lines.bottom", laid_ingot_lines_bottom), ("ingot/patch.bottom", laid_ingot_patch_bottom)], narrowed := true }
def ChannelNobodyUptoSaid : Prop := channelNobodyUptoRow.holds Tryz.pinned (OpenSpec.upto channelNobodySpec)

end Rows
end Go.Proofs.YtabbonafljochaaGreatDoor
