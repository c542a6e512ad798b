/-
  NARROWER THAN 'FOR EVERY INPUT', by the rows' own cells (each row's printed sentence says how): MapChecks: laid · MapBytes: laid · MapReplays: laid · MapProves: laid · MapHangs: laid · MapSound: laid · MapGrows: laid.
  DERIVED. THE GIVEN ROWS OF THIS SEAT. 7 by the template 'for every input the law returns true; each argument reads behind the call as it read before'; 0 by the template 'total and deterministic' (their statements: YtkpfbjlbllpahaaDoorTotals.lean).
  GIVEN WITH THE SEED: the statements are not yours to turn. If you find one false, say at which input.
  Laid BY PROGRAM, IN A SANDBOX (cutbox-rows.mjs): the forced cells as the released guide's own fill.sh prints them over the translation 167e886405c981af… (all of the seat's roots in one cut). By AI agents, Wed Nov 11 2026. No macro, syntax, notation, axiom, sorry.
-/
import Derived.Test.YtkpfbjlbllpahaaDoorChecked
import GoSem.Claim
import GoSem.ClaimJoined
import GoSem.ClaimMapViews
import Derived.JoinedTies
import Derived.KernelRfl
namespace Go.Proofs.YtkpfbjlbllpahaaDoor
/- THE CELL 'sum', in the pinned program and in every row, IS THE sha256 OF THE DUMP (.gsa) THAT YtkpfbjlbllpahaaDoorProg.lean LOADS. Nothing in Lean hashes anything: it is a label: what it is worth is what the hold of that sum in a sandbox is worth. -/
noncomputable def Tryd.pinned : Pinned := { name := "ytkpfbjlbllpahaadoor", sum := "167e886405c981af08fcd0109fbd28cad48bad8f8429219ba304bcdcf411ee3c", checked := Tryd.checked }
namespace Rows
def none {H : Type} : Left H := { results := [], args := [] }

/- WHAT THE LISTED PACKAGE-LEVEL VARIABLES READ AS WHEN THE CALL BEGINS. Each datum BY PROGRAM (the guide's laid-datum.mjs) off the statement by which the dump's own 'gosem.cut.vars' lays the variable. In a bare row this is a premise. The card (YtkpfbjlbllpahaaDoorCards.lean) ties it to the program's text. -/
def laid_annals_annalsref2_first {H : Type} : DataW H := .agg [.lit (.int .u32 1779033703), .lit (.int .u32 3144134277), .lit (.int .u32 1013904242), .lit (.int .u32 2773480762), .lit (.int .u32 1359893119), .lit (.int .u32 2600822924), .lit (.int .u32 528734635), .lit (.int .u32 1541459225)]
def laid_annals_annalsref2_table {H : Type} : DataW H := .agg [.lit (.int .u32 1116352408), .lit (.int .u32 1899447441), .lit (.int .u32 3049323471), .lit (.int .u32 3921009573), .lit (.int .u32 961987163), .lit (.int .u32 1508970993), .lit (.int .u32 2453635748), .lit (.int .u32 2870763221), .lit (.int .u32 3624381080), .lit (.int .u32 310598401), .lit (.int .u32 607225278), .lit (.int .u32 1426881987), .lit (.int .u32 1925078388), .lit (.int .u32 2162078206), .lit (.int .u32 2614888103), .lit (.int .u32 3248222580), .lit (.int .u32 3835390401), .lit (.int .u32 4022224774), .lit (.int .u32 264347078), .lit (.int .u32 604807628), .lit (.int .u32 770255983), .lit (.int .u32 1249150122), .lit (.int .u32 1555081692), .lit (.int .u32 1996064986), .lit (.int .u32 2554220882), .lit (.int .u32 2821834349), .lit (.int .u32 2952996808), .lit (.int .u32 3210313671), .lit (.int .u32 3336571891), .lit (.int .u32 3584528711), .lit (.int .u32 113926993), .lit (.int .u32 338241895), .lit (.int .u32 666307205), .lit (.int .u32 773529912), .lit (.int .u32 1294757372), .lit (.int .u32 1396182291), .lit (.int .u32 1695183700), .lit (.int .u32 1986661051), .lit (.int .u32 2177026350), .lit (.int .u32 2456956037), .lit (.int .u32 2730485921), .lit (.int .u32 2820302411), .lit (.int .u32 3259730800), .lit (.int .u32 3345764771), .lit (.int .u32 3516065817), .lit (.int .u32 3600352804), .lit (.int .u32 4094571909), .lit (.int .u32 275423344), .lit (.int .u32 430227734), .lit (.int .u32 506948616), .lit (.int .u32 659060556), .lit (.int .u32 883997877), .lit (.int .u32 958139571), .lit (.int .u32 1322822218), .lit (.int .u32 1537002063), .lit (.int .u32 1747873779), .lit (.int .u32 1955562222), .lit (.int .u32 2024104815), .lit (.int .u32 2227730452), .lit (.int .u32 2361852424), .lit (.int .u32 2428436474), .lit (.int .u32 2756734187), .lit (.int .u32 3204031479), .lit (.int .u32 3329325298)]
def laid_annals_sha_begin {H : Type} : DataW H := .agg [.lit (.int .u32 1779033703), .lit (.int .u32 3144134277), .lit (.int .u32 1013904242), .lit (.int .u32 2773480762), .lit (.int .u32 1359893119), .lit (.int .u32 2600822924), .lit (.int .u32 528734635), .lit (.int .u32 1541459225)]
def laid_annals_sha_table {H : Type} : DataW H := .agg [.lit (.int .u32 1116352408), .lit (.int .u32 1899447441), .lit (.int .u32 3049323471), .lit (.int .u32 3921009573), .lit (.int .u32 961987163), .lit (.int .u32 1508970993), .lit (.int .u32 2453635748), .lit (.int .u32 2870763221), .lit (.int .u32 3624381080), .lit (.int .u32 310598401), .lit (.int .u32 607225278), .lit (.int .u32 1426881987), .lit (.int .u32 1925078388), .lit (.int .u32 2162078206), .lit (.int .u32 2614888103), .lit (.int .u32 3248222580), .lit (.int .u32 3835390401), .lit (.int .u32 4022224774), .lit (.int .u32 264347078), .lit (.int .u32 604807628), .lit (.int .u32 770255983), .lit (.int .u32 1249150122), .lit (.int .u32 1555081692), .lit (.int .u32 1996064986), .lit (.int .u32 2554220882), .lit (.int .u32 2821834349), .lit (.int .u32 2952996808), .lit (.int .u32 3210313671), .lit (.int .u32 3336571891), .lit (.int .u32 3584528711), .lit (.int .u32 113926993), .lit (.int .u32 338241895), .lit (.int .u32 666307205), .lit (.int .u32 773529912), .lit (.int .u32 1294757372), .lit (.int .u32 1396182291), .lit (.int .u32 1695183700), .lit (.int .u32 1986661051), .lit (.int .u32 2177026350), .lit (.int .u32 2456956037), .lit (.int .u32 2730485921), .lit (.int .u32 2820302411), .lit (.int .u32 3259730800), .lit (.int .u32 3345764771), .lit (.int .u32 3516065817), .lit (.int .u32 3600352804), .lit (.int .u32 4094571909), .lit (.int .u32 275423344), .lit (.int .u32 430227734), .lit (.int .u32 506948616), .lit (.int .u32 659060556), .lit (.int .u32 883997877), .lit (.int .u32 958139571), .lit (.int .u32 1322822218), .lit (.int .u32 1537002063), .lit (.int .u32 1747873779), .lit (.int .u32 1955562222), .lit (.int .u32 2024104815), .lit (.int .u32 2227730452), .lit (.int .u32 2361852424), .lit (.int .u32 2428436474), .lit (.int .u32 2756734187), .lit (.int .u32 3204031479), .lit (.int .u32 3329325298)]

/-- 'annalslaw29.MapChecks': WHATEVER THE INPUT: true; the input reads as it did. -/
def mapChecksSpec : ChangeSpec := { name := "mapChecks", fn := fun _ => fun
  | [d1, d2, d3] => { results := [.lit (.bool true)], args := [d1, d2, d3] }
  | _ => none }
def mapChecksRow : OpenClaim := { program := "ytkpfbjlbllpahaadoor", sum := "167e886405c981af08fcd0109fbd28cad48bad8f8429219ba304bcdcf411ee3c", func := "annals/annalslaw29.MapChecks", spec := "mapChecks", inPlace := ["internal/abi.NoEscape", "internal/bytealg.MakeNoZero"], unfollowed := true, recurses := true, named := ["annals/sha.begin", "annals/sha.table", "annals/annalsref2.first", "annals/annalsref2.table"], apart := false, laid := [("annals/annalsref2.first", laid_annals_annalsref2_first), ("annals/annalsref2.table", laid_annals_annalsref2_table), ("annals/sha.begin", laid_annals_sha_begin), ("annals/sha.table", laid_annals_sha_table)] }
def MapChecksSaid : Prop := mapChecksRow.holds Tryd.pinned (OpenSpec.ofChange mapChecksSpec)

/-- ITS FALSE NEIGHBOUR: 'it returns false'. Refute it at one input. -/
def mapChecksWrong : ChangeSpec := { name := "mapChecks", fn := fun _ => fun
  | [d1, d2, d3] => { results := [.lit (.bool false)], args := [d1, d2, d3] }
  | _ => none }
def MapChecksWrongFalsely : Prop := mapChecksRow.holds Tryd.pinned (OpenSpec.ofChange mapChecksWrong)

/-- 'annalslaw29.MapBytes': WHATEVER THE INPUT: true; the input reads as it did. -/
def mapBytesSpec : ChangeSpec := { name := "mapBytes", fn := fun _ => fun
  | [d1, d2] => { results := [.lit (.bool true)], args := [d1, d2] }
  | _ => none }
def mapBytesRow : OpenClaim := { program := "ytkpfbjlbllpahaadoor", sum := "167e886405c981af08fcd0109fbd28cad48bad8f8429219ba304bcdcf411ee3c", func := "annals/annalslaw29.MapBytes", spec := "mapBytes", inPlace := ["internal/abi.NoEscape", "internal/bytealg.MakeNoZero"], unfollowed := true, recurses := true, named := ["annals/sha.begin", "annals/sha.table", "annals/annalsref2.first", "annals/annalsref2.table"], apart := false, laid := [("annals/annalsref2.first", laid_annals_annalsref2_first), ("annals/annalsref2.table", laid_annals_annalsref2_table), ("annals/sha.begin", laid_annals_sha_begin), ("annals/sha.table", laid_annals_sha_table)] }
def MapBytesSaid : Prop := mapBytesRow.holds Tryd.pinned (OpenSpec.ofChange mapBytesSpec)

/-- ITS FALSE NEIGHBOUR: 'it returns false'. Refute it at one input. -/
def mapBytesWrong : ChangeSpec := { name := "mapBytes", fn := fun _ => fun
  | [d1, d2] => { results := [.lit (.bool false)], args := [d1, d2] }
  | _ => none }
def MapBytesWrongFalsely : Prop := mapBytesRow.holds Tryd.pinned (OpenSpec.ofChange mapBytesWrong)

/-- 'annalslaw29.MapReplays': WHATEVER THE INPUT: true; the input reads as it did. -/
def mapReplaysSpec : ChangeSpec := { name := "mapReplays", fn := fun _ => fun
  | [d1, d2, d3] => { results := [.lit (.bool true)], args := [d1, d2, d3] }
  | _ => none }
def mapReplaysRow : OpenClaim := { program := "ytkpfbjlbllpahaadoor", sum := "167e886405c981af08fcd0109fbd28cad48bad8f8429219ba304bcdcf411ee3c", func := "annals/annalslaw29.MapReplays", spec := "mapReplays", unfollowed := true, recurses := true, named := ["annals/sha.begin", "annals/sha.table", "annals/annalsref2.first", "annals/annalsref2.table"], apart := false, laid := [("annals/annalsref2.first", laid_annals_annalsref2_first), ("annals/annalsref2.table", laid_annals_annalsref2_table), ("annals/sha.begin", laid_annals_sha_begin), ("annals/sha.table", laid_annals_sha_table)] }
def MapReplaysSaid : Prop := mapReplaysRow.holds Tryd.pinned (OpenSpec.ofChange mapReplaysSpec)

/-- ITS FALSE NEIGHBOUR: 'it returns false'. Refute it at one input. -/
def mapReplaysWrong : ChangeSpec := { name := "mapReplays", fn := fun _ => fun
  | [d1, d2, d3] => { results := [.lit (.bool false)], args := [d1, d2, d3] }
  | _ => none }
def MapReplaysWrongFalsely : Prop := mapReplaysRow.holds Tryd.pinned (OpenSpec.ofChange mapReplaysWrong)

/-- 'annalslaw29.MapProves': WHATEVER THE INPUT: true; the input reads as it did. -/
def mapProvesSpec : ChangeSpec := { name := "mapProves", fn := fun _ => fun
  | [d1, d2, d3] => { results := [.lit (.bool true)], args := [d1, d2, d3] }
  | _ => none }
def mapProvesRow : OpenClaim := { program := "ytkpfbjlbllpahaadoor", sum := "167e886405c981af08fcd0109fbd28cad48bad8f8429219ba304bcdcf411ee3c", func := "annals/annalslaw29.MapProves", spec := "mapProves", inPlace := ["internal/abi.NoEscape", "internal/bytealg.MakeNoZero"], unfollowed := true, recurses := true, named := ["annals/sha.begin", "annals/sha.table", "annals/annalsref2.first", "annals/annalsref2.table"], apart := false, laid := [("annals/annalsref2.first", laid_annals_annalsref2_first), ("annals/annalsref2.table", laid_annals_annalsref2_table), ("annals/sha.begin", laid_annals_sha_begin), ("annals/sha.table", laid_annals_sha_table)] }
def MapProvesSaid : Prop := mapProvesRow.holds Tryd.pinned (OpenSpec.ofChange mapProvesSpec)

/-- ITS FALSE NEIGHBOUR: 'it returns false'. Refute it at one input. -/
def mapProvesWrong : ChangeSpec := { name := "mapProves", fn := fun _ => fun
  | [d1, d2, d3] => { results := [.lit (.bool false)], args := [d1, d2, d3] }
  | _ => none }
def MapProvesWrongFalsely : Prop := mapProvesRow.holds Tryd.pinned (OpenSpec.ofChange mapProvesWrong)

/-- 'annalslaw29.MapHangs': WHATEVER THE INPUT: true; the input reads as it did. -/
def mapHangsSpec : ChangeSpec := { name := "mapHangs", fn := fun _ => fun
  | [d1, d2, d3] => { results := [.lit (.bool true)], args := [d1, d2, d3] }
  | _ => none }
def mapHangsRow : OpenClaim := { program := "ytkpfbjlbllpahaadoor", sum := "167e886405c981af08fcd0109fbd28cad48bad8f8429219ba304bcdcf411ee3c", func := "annals/annalslaw29.MapHangs", spec := "mapHangs", inPlace := ["internal/abi.NoEscape", "internal/bytealg.MakeNoZero"], unfollowed := true, recurses := true, named := ["annals/sha.begin", "annals/sha.table"], apart := false, laid := [("annals/sha.begin", laid_annals_sha_begin), ("annals/sha.table", laid_annals_sha_table)] }
def MapHangsSaid : Prop := mapHangsRow.holds Tryd.pinned (OpenSpec.ofChange mapHangsSpec)

/-- ITS FALSE NEIGHBOUR: 'it returns false'. Refute it at one input. -/
def mapHangsWrong : ChangeSpec := { name := "mapHangs", fn := fun _ => fun
  | [d1, d2, d3] => { results := [.lit (.bool false)], args := [d1, d2, d3] }
  | _ => none }
def MapHangsWrongFalsely : Prop := mapHangsRow.holds Tryd.pinned (OpenSpec.ofChange mapHangsWrong)

/-- 'annalslaw29.MapSound': WHATEVER THE INPUT: true; the input reads as it did. -/
def mapSoundSpec : ChangeSpec := { name := "mapSound", fn := fun _ => fun
  | [d1, d2, d3, d4] => { results := [.lit (.bool true)], args := [d1, d2, d3, d4] }
  | _ => none }
def mapSoundRow : OpenClaim := { program := "ytkpfbjlbllpahaadoor", sum := "167e886405c981af08fcd0109fbd28cad48bad8f8429219ba304bcdcf411ee3c", func := "annals/annalslaw29.MapSound", spec := "mapSound", inPlace := ["internal/abi.NoEscape", "internal/bytealg.MakeNoZero"], unfollowed := true, recurses := true, named := ["annals/sha.begin", "annals/sha.table"], apart := false, laid := [("annals/sha.begin", laid_annals_sha_begin), ("annals/sha.table", laid_annals_sha_table)] }
def MapSoundSaid : Prop := mapSoundRow.holds Tryd.pinned (OpenSpec.ofChange mapSoundSpec)

/-- ITS FALSE NEIGHBOUR: 'it returns false'. Refute it at one input. -/
def mapSoundWrong : ChangeSpec := { name := "mapSound", fn := fun _ => fun
  | [d1, d2, d3, d4] => { results := [.lit (.bool false)], args := [d1, d2, d3, d4] }
  | _ => none }
def MapSoundWrongFalsely : Prop := mapSoundRow.holds Tryd.pinned (OpenSpec.ofChange mapSoundWrong)

/-- 'annalslaw29.MapGrows': WHATEVER THE INPUT: true; the input reads as it did. -/
def mapGrowsSpec : ChangeSpec := { name := "mapGrows", fn := fun _ => fun
  | [d1, d2, d3, d4] => { results := [.lit (.bool true)], args := [d1, d2, d3, d4] }
  | _ => none }
def mapGrowsRow : OpenClaim := { program := "ytkpfbjlbllpahaadoor", sum := "167e886405c981af08fcd0109fbd28cad48bad8f8429219ba304bcdcf411ee3c", func := "annals/annalslaw29.MapGrows", spec := "mapGrows", inPlace := ["internal/abi.NoEscape", "internal/bytealg.MakeNoZero"], unfollowed := true, recurses := true, named := ["annals/sha.begin", "annals/sha.table"], apart := false, laid := [("annals/sha.begin", laid_annals_sha_begin), ("annals/sha.table", laid_annals_sha_table)] }
def MapGrowsSaid : Prop := mapGrowsRow.holds Tryd.pinned (OpenSpec.ofChange mapGrowsSpec)

/-- ITS FALSE NEIGHBOUR: 'it returns false'. Refute it at one input. -/
def mapGrowsWrong : ChangeSpec := { name := "mapGrows", fn := fun _ => fun
  | [d1, d2, d3, d4] => { results := [.lit (.bool false)], args := [d1, d2, d3, d4] }
  | _ => none }
def MapGrowsWrongFalsely : Prop := mapGrowsRow.holds Tryd.pinned (OpenSpec.ofChange mapGrowsWrong)

/- THE SECOND FORM. 'bulk': how many values and letters a reading holds, each counted each time it is reached (what is shared counts as often as it is met; a slice's spare places count too). A statement '..UptoSaid' is the law's where the arguments, and the package variables that the reading takes, are together of bulk at most 1048576: NARROWER than '..Said'. Prove '..Said' where nothing that the law and all that it calls make is longer than what came in: it says more and counts as full. Else prove '..UptoSaid'. A law counts once. -/
mutual
def uptoBulk {H : Type} : DataW H → Nat
  | .lit (.string bytes) => bytes.length + 1
  | .lit _ => 1
  | .nil => 1
  | .ptr d => uptoBulk d + 1
  | .slice elems spare => uptoBulkAll elems + uptoBulkAll spare + 1
  | .agg parts => uptoBulkAll parts + 1
  | .iface _ d => uptoBulk d + 1
  | .map entries => uptoBulkEntries entries + 1
  | .held _ => 1
def uptoBulkAll {H : Type} : List (DataW H) → Nat
  | [] => 0
  | d :: r => uptoBulk d + uptoBulkAll r
def uptoBulkEntries {H : Type} : List (Lit × DataW H) → Nat
  | [] => 0
  | x :: r => uptoBulkEntry x + uptoBulkEntries r
def uptoBulkEntry {H : Type} : Lit × DataW H → Nat
  | (.string bytes, d) => bytes.length + uptoBulk d + 1
  | (_, d) => uptoBulk d + 1
 end
def uptoSmall : (H : Type) → List (DataW H) → Bool := fun _ ds => decide (uptoBulkAll ds ≤ 1048576)
def OpenSpec.upto (s : _root_.Go.ChangeSpec) : _root_.Go.OpenSpec := { _root_.Go.OpenSpec.ofChange s with cond := some uptoSmall }

/-- 'annalslaw29.MapChecks', WHERE WHAT IT READS IS OF BULK AT MOST 1048576: true; the input reads as it did. -/
def mapChecksUptoRow : OpenClaim := { program := "ytkpfbjlbllpahaadoor", sum := "167e886405c981af08fcd0109fbd28cad48bad8f8429219ba304bcdcf411ee3c", func := "annals/annalslaw29.MapChecks", spec := "mapChecks", inPlace := ["internal/abi.NoEscape", "internal/bytealg.MakeNoZero"], unfollowed := true, recurses := true, named := ["annals/sha.begin", "annals/sha.table", "annals/annalsref2.first", "annals/annalsref2.table"], apart := false, laid := [("annals/annalsref2.first", laid_annals_annalsref2_first), ("annals/annalsref2.table", laid_annals_annalsref2_table), ("annals/sha.begin", laid_annals_sha_begin), ("annals/sha.table", laid_annals_sha_table)], narrowed := true }
def MapChecksUptoSaid : Prop := mapChecksUptoRow.holds Tryd.pinned (OpenSpec.upto mapChecksSpec)

/-- 'annalslaw29.MapBytes', WHERE WHAT IT READS IS OF BULK AT MOST 1048576: true; the input reads as it did. -/
def mapBytesUptoRow : OpenClaim := { program := "ytkpfbjlbllpahaadoor", sum := "167e886405c981af08fcd0109fbd28cad48bad8f8429219ba304bcdcf411ee3c", func := "annals/annalslaw29.MapBytes", spec := "mapBytes", inPlace := ["internal/abi.NoEscape", "internal/bytealg.MakeNoZero"], unfollowed := true, recurses := true, named := ["annals/sha.begin", "annals/sha.table", "annals/annalsref2.first", "annals/annalsref2.table"], apart := false, laid := [("annals/annalsref2.first", laid_annals_annalsref2_first), ("annals/annalsref2.table", laid_annals_annalsref2_table), ("annals/sha.begin", laid_annals_sha_begin), ("annals/sha.table", laid_annals_sha_table)], narrowed := true }
def MapBytesUptoSaid : Prop := mapBytesUptoRow.holds Tryd.pinned (OpenSpec.upto mapBytesSpec)

/-- 'annalslaw29.MapReplays', WHERE WHAT IT READS IS OF BULK AT MOST 1048576: true; the input reads as it did. -/
def mapReplaysUptoRow : OpenClaim := { program := "ytkpfbjlbllpahaadoor", sum := "167e886405c981af08fcd0109fbd28cad48bad8f8429219ba304bcdcf411ee3c", func := "annals/annalslaw29.MapReplays", spec := "mapReplays", unfollowed := true, recurses := true, named := ["annals/sha.begin", "annals/sha.table", "annals/annalsref2.first", "annals/annalsref2.table"], apart := false, laid := [("annals/annalsref2.first", laid_annals_annalsref2_first), ("annals/annalsref2.table", laid_annals_annalsref2_table), ("annals/sha.begin", laid_annals_sha_begin), ("annals/sha.table", laid_annals_sha_table)], narrowed := true }
def MapReplaysUptoSaid : Prop := mapReplaysUptoRow.holds Tryd.pinned (OpenSpec.upto mapReplaysSpec)

/-- 'annalslaw29.MapProves', WHERE WHAT IT READS IS OF BULK AT MOST 1048576: true; the input reads as it did. -/
def mapProvesUptoRow : OpenClaim := { program := "ytkpfbjlbllpahaadoor", sum := "167e886405c981af08fcd0109fbd28cad48bad8f8429219ba304bcdcf411ee3c", func := "annals/annalslaw29.MapProves", spec := "mapProves", inPlace := ["internal/abi.NoEscape", "internal/bytealg.MakeNoZero"], unfollowed := true, recurses := true, named := ["annals/sha.begin", "annals/sha.table", "annals/annalsref2.first", "annals/annalsref2.table"], apart := false, laid := [("annals/annalsref2.first", laid_annals_annalsref2_first), ("annals/annalsref2.table", laid_annals_annalsref2_table), ("annals/sha.begin", laid_annals_sha_begin), ("annals/sha.table", laid_annals_sha_table)], narrowed := true }
def MapProvesUptoSaid : Prop := mapProvesUptoRow.holds Tryd.pinned (OpenSpec.upto mapProvesSpec)

/-- 'annalslaw29.MapHangs', WHERE WHAT IT READS IS OF BULK AT MOST 1048576: true; the input reads as it did. -/
def mapHangsUptoRow : OpenClaim := { program := "ytkpfbjlbllpahaadoor", sum := "167e886405c981af08fcd0109fbd28cad48bad8f8429219ba304bcdcf411ee3c", func := "annals/annalslaw29.MapHangs", spec := "mapHangs", inPlace := ["internal/abi.NoEscape", "internal/bytealg.MakeNoZero"], unfollowed := true, recurses := true, named := ["annals/sha.begin", "annals/sha.table"], apart := false, laid := [("annals/sha.begin", laid_annals_sha_begin), ("annals/sha.table", laid_annals_sha_table)], narrowed := true }
def MapHangsUptoSaid : Prop := mapHangsUptoRow.holds Tryd.pinned (OpenSpec.upto mapHangsSpec)

/-- 'annalslaw29.MapSound', WHERE WHAT IT READS IS OF BULK AT MOST 1048576: true; the input reads as it did. -/
def mapSoundUptoRow : OpenClaim := { program := "ytkpfbjlbllpahaadoor", sum := "167e886405c981af08fcd0109fbd28cad48bad8f8429219ba304bcdcf411ee3c", func := "annals/annalslaw29.MapSound", spec := "mapSound", inPlace := ["internal/abi.NoEscape", "internal/bytealg.MakeNoZero"], unfollowed := true, recurses := true, named := ["annals/sha.begin", "annals/sha.table"], apart := false, laid := [("annals/sha.begin", laid_annals_sha_begin), ("annals/sha.table", laid_annals_sha_table)], narrowed := true }
def MapSoundUptoSaid : Prop := mapSoundUptoRow.holds Tryd.pinned (OpenSpec.upto mapSoundSpec)

/-- 'annalslaw29.MapGrows', WHERE WHAT IT READS IS OF BULK AT MOST 1048576: true; the input reads as it did. -/
def mapGrowsUptoRow : OpenClaim := { program := "ytkpfbjlbllpahaadoor", sum := "167e886405c981af08fcd0109fbd28cad48bad8f8429219ba304bcdcf411ee3c", func := "annals/annalslaw29.MapGrows", spec := "mapGrows", inPlace := ["internal/abi.NoEscape", "internal/bytealg.MakeNoZero"], unfollowed := true, recurses := true, named := ["annals/sha.begin", "annals/sha.table"], apart := false, laid := [("annals/sha.begin", laid_annals_sha_begin), ("annals/sha.table", laid_annals_sha_table)], narrowed := true }
def MapGrowsUptoSaid : Prop := mapGrowsUptoRow.holds Tryd.pinned (OpenSpec.upto mapGrowsSpec)

end Rows
end Go.Proofs.YtkpfbjlbllpahaaDoor
