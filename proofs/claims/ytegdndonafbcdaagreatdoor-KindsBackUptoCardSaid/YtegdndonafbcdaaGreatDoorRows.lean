/-
  NARROWER THAN 'FOR EVERY INPUT', by the rows' own cells (each row's printed sentence says how): KindsFlat: loops, laid · KindsKeys: loops, laid · KindsOwn: loops, laid · KindsContains: loops, laid · KindsTells: loops, laid · KindsBack: loops, laid · KindsTurns: loops, laid · KindsReads: loops, laid.
  DERIVED. THE GIVEN ROWS OF THIS SEAT. 8 by the template 'for every input the law returns true; each argument reads behind the call as it read before'; 0 by the template 'total and deterministic' (their statements: YtegdndonafbcdaaGreatDoorTotals.lean).
  GIVEN WITH THE SEED: the statements are not yours to turn. If you find one false, say at which input.
  Laid BY PROGRAM, IN A SANDBOX (cutbox-rows.mjs): the forced cells as the released guide's own fill.sh prints them over the translation 10fe3f73b2840ad4… (all of the seat's roots in one cut). By AI agents, Wed Nov 11 2026. No macro, syntax, notation, axiom, sorry.
-/
import Derived.Test.YtegdndonafbcdaaGreatDoorChecked
import GoSem.PinnedTables
import GoSem.Claim
import GoSem.ClaimJoined
import GoSem.ClaimMapViews
import Derived.JoinedTies
import Derived.KernelRfl
namespace Go.Proofs.YtegdndonafbcdaaGreatDoor
/- THE CELL 'sum', in the pinned program and in every row, IS THE sha256 OF THE DUMP (.gsa) THAT YtegdndonafbcdaaGreatDoorProg.lean LOADS. Nothing in Lean hashes anything: it is a label: what it is worth is what the hold of that sum in a sandbox is worth. -/
noncomputable def Tryz.pinned : Pinned := { name := "ytegdndonafbcdaagreatdoor", sum := "10fe3f73b2840ad44432d32b2d5b9dea01196b71fcb0770219fe9d43ff9a0e1d", checked := Tryz.checked }
namespace Rows
def none {H : Type} : Left H := { results := [], args := [] }

/- WHAT THE LISTED PACKAGE-LEVEL VARIABLES READ AS WHEN THE CALL BEGINS. Each datum BY PROGRAM (the guide's laid-datum.mjs) off the statement by which the dump's own 'gosem.cut.vars' lays the variable. In a bare row this is a premise. The card (YtegdndonafbcdaaGreatDoorCards.lean) ties it to the program's text. -/
def laid_unicode_utf8_acceptRanges {H : Type} : DataW H := .agg [.agg [.lit (.int .u8 128), .lit (.int .u8 191)], .agg [.lit (.int .u8 160), .lit (.int .u8 191)], .agg [.lit (.int .u8 128), .lit (.int .u8 159)], .agg [.lit (.int .u8 144), .lit (.int .u8 191)], .agg [.lit (.int .u8 128), .lit (.int .u8 143)], .agg [.lit (.int .u8 0), .lit (.int .u8 0)], .agg [.lit (.int .u8 0), .lit (.int .u8 0)], .agg [.lit (.int .u8 0), .lit (.int .u8 0)], .agg [.lit (.int .u8 0), .lit (.int .u8 0)], .agg [.lit (.int .u8 0), .lit (.int .u8 0)], .agg [.lit (.int .u8 0), .lit (.int .u8 0)], .agg [.lit (.int .u8 0), .lit (.int .u8 0)], .agg [.lit (.int .u8 0), .lit (.int .u8 0)], .agg [.lit (.int .u8 0), .lit (.int .u8 0)], .agg [.lit (.int .u8 0), .lit (.int .u8 0)], .agg [.lit (.int .u8 0), .lit (.int .u8 0)]]
/-- One of Go's own tables, pinned by name: the form's constant. -/
def laid_unicode_utf8_first : DataW Unit := Go.Pinned.utf8First

/-- 'bolterlaw12.KindsFlat': WHATEVER THE INPUT: true; the input reads as it did. -/
def kindsFlatSpec : ChangeSpec := { name := "kindsFlat", fn := fun _ => fun
  | [d1, d2] => { results := [.lit (.bool true)], args := [d1, d2] }
  | _ => none }
def kindsFlatRow : OpenClaim := { program := "ytegdndonafbcdaagreatdoor", sum := "10fe3f73b2840ad44432d32b2d5b9dea01196b71fcb0770219fe9d43ff9a0e1d", func := "bolter/bolterlaw12.KindsFlat", spec := "kindsFlat", inPlace := ["internal/bytealg.IndexByteString", "internal/bytealg.IndexString"], unfollowed := true, recurses := true, named := ["unicode/utf8.first", "unicode/utf8.acceptRanges", "math/bits.overflowError", "internal/bytealg.MaxLen"], loops := true, apart := false, laid := [("unicode/utf8.acceptRanges", laid_unicode_utf8_acceptRanges), ("unicode/utf8.first", laid_unicode_utf8_first)] }
def KindsFlatSaid : Prop := kindsFlatRow.holds Tryz.pinned (OpenSpec.ofChange kindsFlatSpec)

/-- ITS FALSE NEIGHBOUR: 'it returns false'. Refute it at one input. -/
def kindsFlatWrong : ChangeSpec := { name := "kindsFlat", fn := fun _ => fun
  | [d1, d2] => { results := [.lit (.bool false)], args := [d1, d2] }
  | _ => none }
def KindsFlatWrongFalsely : Prop := kindsFlatRow.holds Tryz.pinned (OpenSpec.ofChange kindsFlatWrong)

/-- 'bolterlaw12.KindsKeys': WHATEVER THE INPUT: true; the input reads as it did. -/
def kindsKeysSpec : ChangeSpec := { name := "kindsKeys", fn := fun _ => fun
  | [d] => { results := [.lit (.bool true)], args := [d] }
  | _ => none }
def kindsKeysRow : OpenClaim := { program := "ytegdndonafbcdaagreatdoor", sum := "10fe3f73b2840ad44432d32b2d5b9dea01196b71fcb0770219fe9d43ff9a0e1d", func := "bolter/bolterlaw12.KindsKeys", spec := "kindsKeys", inPlace := ["internal/bytealg.IndexByteString", "internal/bytealg.IndexString"], unfollowed := true, recurses := true, named := ["unicode/utf8.first", "unicode/utf8.acceptRanges", "math/bits.overflowError", "internal/bytealg.MaxLen"], loops := true, apart := false, laid := [("unicode/utf8.acceptRanges", laid_unicode_utf8_acceptRanges), ("unicode/utf8.first", laid_unicode_utf8_first)] }
def KindsKeysSaid : Prop := kindsKeysRow.holds Tryz.pinned (OpenSpec.ofChange kindsKeysSpec)

/-- ITS FALSE NEIGHBOUR: 'it returns false'. Refute it at one input. -/
def kindsKeysWrong : ChangeSpec := { name := "kindsKeys", fn := fun _ => fun
  | [d] => { results := [.lit (.bool false)], args := [d] }
  | _ => none }
def KindsKeysWrongFalsely : Prop := kindsKeysRow.holds Tryz.pinned (OpenSpec.ofChange kindsKeysWrong)

/-- 'bolterlaw12.KindsOwn': WHATEVER THE INPUT: true; the input reads as it did. -/
def kindsOwnSpec : ChangeSpec := { name := "kindsOwn", fn := fun _ => fun
  | [d] => { results := [.lit (.bool true)], args := [d] }
  | _ => none }
def kindsOwnRow : OpenClaim := { program := "ytegdndonafbcdaagreatdoor", sum := "10fe3f73b2840ad44432d32b2d5b9dea01196b71fcb0770219fe9d43ff9a0e1d", func := "bolter/bolterlaw12.KindsOwn", spec := "kindsOwn", inPlace := ["internal/bytealg.IndexByteString", "internal/bytealg.IndexString"], unfollowed := true, recurses := true, named := ["unicode/utf8.first", "unicode/utf8.acceptRanges", "math/bits.overflowError", "internal/bytealg.MaxLen"], loops := true, apart := false, laid := [("unicode/utf8.acceptRanges", laid_unicode_utf8_acceptRanges), ("unicode/utf8.first", laid_unicode_utf8_first)] }
def KindsOwnSaid : Prop := kindsOwnRow.holds Tryz.pinned (OpenSpec.ofChange kindsOwnSpec)

/-- ITS FALSE NEIGHBOUR: 'it returns false'. Refute it at one input. -/
def kindsOwnWrong : ChangeSpec := { name := "kindsOwn", fn := fun _ => fun
  | [d] => { results := [.lit (.bool false)], args := [d] }
  | _ => none }
def KindsOwnWrongFalsely : Prop := kindsOwnRow.holds Tryz.pinned (OpenSpec.ofChange kindsOwnWrong)

/-- 'bolterlaw12.KindsContains': WHATEVER THE INPUT: true; the input reads as it did. -/
def kindsContainsSpec : ChangeSpec := { name := "kindsContains", fn := fun _ => fun
  | [d1, d2, d3] => { results := [.lit (.bool true)], args := [d1, d2, d3] }
  | _ => none }
def kindsContainsRow : OpenClaim := { program := "ytegdndonafbcdaagreatdoor", sum := "10fe3f73b2840ad44432d32b2d5b9dea01196b71fcb0770219fe9d43ff9a0e1d", func := "bolter/bolterlaw12.KindsContains", spec := "kindsContains", inPlace := ["internal/bytealg.IndexByteString", "internal/bytealg.IndexString"], unfollowed := true, recurses := true, named := ["unicode/utf8.first", "unicode/utf8.acceptRanges", "math/bits.overflowError", "internal/bytealg.MaxLen"], loops := true, apart := false, laid := [("unicode/utf8.acceptRanges", laid_unicode_utf8_acceptRanges), ("unicode/utf8.first", laid_unicode_utf8_first)] }
def KindsContainsSaid : Prop := kindsContainsRow.holds Tryz.pinned (OpenSpec.ofChange kindsContainsSpec)

/-- ITS FALSE NEIGHBOUR: 'it returns false'. Refute it at one input. -/
def kindsContainsWrong : ChangeSpec := { name := "kindsContains", fn := fun _ => fun
  | [d1, d2, d3] => { results := [.lit (.bool false)], args := [d1, d2, d3] }
  | _ => none }
def KindsContainsWrongFalsely : Prop := kindsContainsRow.holds Tryz.pinned (OpenSpec.ofChange kindsContainsWrong)

/-- 'bolterlaw12.KindsTells': WHATEVER THE INPUT: true; the input reads as it did. -/
def kindsTellsSpec : ChangeSpec := { name := "kindsTells", fn := fun _ => fun
  | [d1, d2] => { results := [.lit (.bool true)], args := [d1, d2] }
  | _ => none }
def kindsTellsRow : OpenClaim := { program := "ytegdndonafbcdaagreatdoor", sum := "10fe3f73b2840ad44432d32b2d5b9dea01196b71fcb0770219fe9d43ff9a0e1d", func := "bolter/bolterlaw12.KindsTells", spec := "kindsTells", inPlace := ["internal/bytealg.IndexByteString", "internal/bytealg.IndexString"], unfollowed := true, recurses := true, named := ["unicode/utf8.first", "unicode/utf8.acceptRanges", "math/bits.overflowError", "internal/bytealg.MaxLen"], loops := true, apart := false, laid := [("unicode/utf8.acceptRanges", laid_unicode_utf8_acceptRanges), ("unicode/utf8.first", laid_unicode_utf8_first)] }
def KindsTellsSaid : Prop := kindsTellsRow.holds Tryz.pinned (OpenSpec.ofChange kindsTellsSpec)

/-- ITS FALSE NEIGHBOUR: 'it returns false'. Refute it at one input. -/
def kindsTellsWrong : ChangeSpec := { name := "kindsTells", fn := fun _ => fun
  | [d1, d2] => { results := [.lit (.bool false)], args := [d1, d2] }
  | _ => none }
def KindsTellsWrongFalsely : Prop := kindsTellsRow.holds Tryz.pinned (OpenSpec.ofChange kindsTellsWrong)

/-- 'bolterlaw12.KindsBack': WHATEVER THE INPUT: true; the input reads as it did. -/
def kindsBackSpec : ChangeSpec := { name := "kindsBack", fn := fun _ => fun
  | [d] => { results := [.lit (.bool true)], args := [d] }
  | _ => none }
def kindsBackRow : OpenClaim := { program := "ytegdndonafbcdaagreatdoor", sum := "10fe3f73b2840ad44432d32b2d5b9dea01196b71fcb0770219fe9d43ff9a0e1d", func := "bolter/bolterlaw12.KindsBack", spec := "kindsBack", inPlace := ["internal/bytealg.IndexByteString", "internal/bytealg.IndexString", "internal/abi.NoEscape", "internal/bytealg.MakeNoZero", "slices.overlaps[string]", "slices.overlaps[bolter/api.Value]"], unfollowed := true, recurses := true, named := ["unicode/utf8.first", "unicode/utf8.acceptRanges", "math/bits.overflowError", "internal/bytealg.MaxLen"], loops := true, apart := false, laid := [("unicode/utf8.acceptRanges", laid_unicode_utf8_acceptRanges), ("unicode/utf8.first", laid_unicode_utf8_first)] }
def KindsBackSaid : Prop := kindsBackRow.holds Tryz.pinned (OpenSpec.ofChange kindsBackSpec)

/-- ITS FALSE NEIGHBOUR: 'it returns false'. Refute it at one input. -/
def kindsBackWrong : ChangeSpec := { name := "kindsBack", fn := fun _ => fun
  | [d] => { results := [.lit (.bool false)], args := [d] }
  | _ => none }
def KindsBackWrongFalsely : Prop := kindsBackRow.holds Tryz.pinned (OpenSpec.ofChange kindsBackWrong)

/-- 'bolterlaw12.KindsTurns': WHATEVER THE INPUT: true; the input reads as it did. -/
def kindsTurnsSpec : ChangeSpec := { name := "kindsTurns", fn := fun _ => fun
  | [d1, d2] => { results := [.lit (.bool true)], args := [d1, d2] }
  | _ => none }
def kindsTurnsRow : OpenClaim := { program := "ytegdndonafbcdaagreatdoor", sum := "10fe3f73b2840ad44432d32b2d5b9dea01196b71fcb0770219fe9d43ff9a0e1d", func := "bolter/bolterlaw12.KindsTurns", spec := "kindsTurns", inPlace := ["internal/abi.NoEscape", "internal/bytealg.MakeNoZero", "internal/bytealg.IndexByteString", "slices.overlaps[string]", "slices.overlaps[bolter/api.Value]", "internal/bytealg.IndexString"], unfollowed := true, recurses := true, named := ["unicode/utf8.first", "unicode/utf8.acceptRanges", "math/bits.overflowError", "internal/bytealg.MaxLen"], loops := true, apart := false, laid := [("unicode/utf8.acceptRanges", laid_unicode_utf8_acceptRanges), ("unicode/utf8.first", laid_unicode_utf8_first)] }
def KindsTurnsSaid : Prop := kindsTurnsRow.holds Tryz.pinned (OpenSpec.ofChange kindsTurnsSpec)

/-- ITS FALSE NEIGHBOUR: 'it returns false'. Refute it at one input. -/
def kindsTurnsWrong : ChangeSpec := { name := "kindsTurns", fn := fun _ => fun
  | [d1, d2] => { results := [.lit (.bool false)], args := [d1, d2] }
  | _ => none }
def KindsTurnsWrongFalsely : Prop := kindsTurnsRow.holds Tryz.pinned (OpenSpec.ofChange kindsTurnsWrong)

/-- 'bolterlaw12.KindsReads': WHATEVER THE INPUT: true; the input reads as it did. -/
def kindsReadsSpec : ChangeSpec := { name := "kindsReads", fn := fun _ => fun
  | [d] => { results := [.lit (.bool true)], args := [d] }
  | _ => none }
def kindsReadsRow : OpenClaim := { program := "ytegdndonafbcdaagreatdoor", sum := "10fe3f73b2840ad44432d32b2d5b9dea01196b71fcb0770219fe9d43ff9a0e1d", func := "bolter/bolterlaw12.KindsReads", spec := "kindsReads", inPlace := ["internal/bytealg.IndexByteString", "internal/bytealg.IndexString", "internal/abi.NoEscape", "internal/bytealg.MakeNoZero", "slices.overlaps[string]", "slices.overlaps[bolter/api.Value]"], unfollowed := true, recurses := true, named := ["unicode/utf8.first", "unicode/utf8.acceptRanges", "math/bits.overflowError", "internal/bytealg.MaxLen"], loops := true, apart := false, laid := [("unicode/utf8.acceptRanges", laid_unicode_utf8_acceptRanges), ("unicode/utf8.first", laid_unicode_utf8_first)] }
def KindsReadsSaid : Prop := kindsReadsRow.holds Tryz.pinned (OpenSpec.ofChange kindsReadsSpec)

/-- ITS FALSE NEIGHBOUR: 'it returns false'. Refute it at one input. -/
def kindsReadsWrong : ChangeSpec := { name := "kindsReads", fn := fun _ => fun
  | [d] => { results := [.lit (.bool false)], args := [d] }
  | _ => none }
def KindsReadsWrongFalsely : Prop := kindsReadsRow.holds Tryz.pinned (OpenSpec.ofChange kindsReadsWrong)

/- THE SECOND FORM. 'bulk': how many values and letters a reading holds, each counted each time it is reached (what is shared counts as often as it is met; a slice's spare places count too). A statement '..UptoSaid' is the law's where the arguments, and the package variables that the reading takes, are together of bulk at most 1048576: NARROWER than '..Said'. Prove '..Said' where nothing that the law and all that it calls make is longer than what came in: it says more and counts as full. Else prove '..UptoSaid'. A law counts once. -/
mutual
def uptoBulk {H : Type} : DataW H → Nat
  | .lit (.string bytes) => bytes.length + 1
  | .lit _ => 1
  | .nil => 1
  | .ptr d => uptoBulk d + 1
  | .slice elems spare => uptoBulkAll elems + uptoBulkAll spare + 1
  | .agg parts => uptoBulkAll parts + 1
  | .iface _ d => uptoBulk d + 1
  | .map entries => uptoBulkEntries entries + 1
  | .held _ => 1
def uptoBulkAll {H : Type} : List (DataW H) → Nat
  | [] => 0
  | d :: r => uptoBulk d + uptoBulkAll r
def uptoBulkEntries {H : Type} : List (Lit × DataW H) → Nat
  | [] => 0
  | x :: r => uptoBulkEntry x + uptoBulkEntries r
def uptoBulkEntry {H : Type} : Lit × DataW H → Nat
  | (.string bytes, d) => bytes.length + uptoBulk d + 1
  | (_, d) => uptoBulk d + 1
 end
def uptoSmall : (H : Type) → List (DataW H) → Bool := fun _ ds => decide (uptoBulkAll ds ≤ 1048576)
def OpenSpec.upto (s : _root_.Go.ChangeSpec) : _root_.Go.OpenSpec := { _root_.Go.OpenSpec.ofChange s with cond := some uptoSmall }

/-- 'bolterlaw12.KindsFlat', WHERE WHAT IT READS IS OF BULK AT MOST 1048576: true; the input reads as it did. -/
def kindsFlatUptoRow : OpenClaim := { program := "ytegdndonafbcdaagreatdoor", sum := "10fe3f73b2840ad44432d32b2d5b9dea01196b71fcb0770219fe9d43ff9a0e1d", func := "bolter/bolterlaw12.KindsFlat", spec := "kindsFlat", inPlace := ["internal/bytealg.IndexByteString", "internal/bytealg.IndexString"], unfollowed := true, recurses := true, named := ["unicode/utf8.first", "unicode/utf8.acceptRanges", "math/bits.overflowError", "internal/bytealg.MaxLen"], loops := true, apart := false, laid := [("unicode/utf8.acceptRanges", laid_unicode_utf8_acceptRanges), ("unicode/utf8.first", laid_unicode_utf8_first)], narrowed := true }
def KindsFlatUptoSaid : Prop := kindsFlatUptoRow.holds Tryz.pinned (OpenSpec.upto kindsFlatSpec)

/-- 'bolterlaw12.KindsKeys', WHERE WHAT IT READS IS OF BULK AT MOST 1048576: true; the input reads as it did. -/
def kindsKeysUptoRow : OpenClaim := { program := "ytegdndonafbcdaagreatdoor", sum := "10fe3f73b2840ad44432d32b2d5b9dea01196b71fcb0770219fe9d43ff9a0e1d", func := "bolter/bolterlaw12.KindsKeys", spec := "kindsKeys", inPlace := ["internal/bytealg.IndexByteString", "internal/bytealg.IndexString"], unfollowed := true, recurses := true, named := ["unicode/utf8.first", "unicode/utf8.acceptRanges", "math/bits.overflowError", "internal/bytealg.MaxLen"], loops := true, apart := false, laid := [("unicode/utf8.acceptRanges", laid_unicode_utf8_acceptRanges), ("unicode/utf8.first", laid_unicode_utf8_first)], narrowed := true }
def KindsKeysUptoSaid : Prop := kindsKeysUptoRow.holds Tryz.pinned (OpenSpec.upto kindsKeysSpec)

/-- 'bolterlaw12.KindsOwn', WHERE WHAT IT READS IS OF BULK AT MOST 1048576: true; the input reads as it did. -/
def kindsOwnUptoRow : OpenClaim := { program := "ytegdndonafbcdaagreatdoor", sum := "10fe3f73b2840ad44432d32b2d5b9dea01196b71fcb0770219fe9d43ff9a0e1d", func := "bolter/bolterlaw12.KindsOwn", spec := "kindsOwn", inPlace := ["internal/bytealg.IndexByteString", "internal/bytealg.IndexString"], unfollowed := true, recurses := true, named := ["unicode/utf8.first", "unicode/utf8.acceptRanges", "math/bits.overflowError", "internal/bytealg.MaxLen"], loops := true, apart := false, laid := [("unicode/utf8.acceptRanges", laid_unicode_utf8_acceptRanges), ("unicode/utf8.first", laid_unicode_utf8_first)], narrowed := true }
def KindsOwnUptoSaid : Prop := kindsOwnUptoRow.holds Tryz.pinned (OpenSpec.upto kindsOwnSpec)

/-- 'bolterlaw12.KindsContains', WHERE WHAT IT READS IS OF BULK AT MOST 1048576: true; the input reads as it did. -/
def kindsContainsUptoRow : OpenClaim := { program := "ytegdndonafbcdaagreatdoor", sum := "10fe3f73b2840ad44432d32b2d5b9dea01196b71fcb0770219fe9d43ff9a0e1d", func := "bolter/bolterlaw12.KindsContains", spec := "kindsContains", inPlace := ["internal/bytealg.IndexByteString", "internal/bytealg.IndexString"], unfollowed := true, recurses := true, named := ["unicode/utf8.first", "unicode/utf8.acceptRanges", "math/bits.overflowError", "internal/bytealg.MaxLen"], loops := true, apart := false, laid := [("unicode/utf8.acceptRanges", laid_unicode_utf8_acceptRanges), ("unicode/utf8.first", laid_unicode_utf8_first)], narrowed := true }
def KindsContainsUptoSaid : Prop := kindsContainsUptoRow.holds Tryz.pinned (OpenSpec.upto kindsContainsSpec)

/-- 'bolterlaw12.KindsTells', WHERE WHAT IT READS IS OF BULK AT MOST 1048576: true; the input reads as it did. -/
def kindsTellsUptoRow : OpenClaim := { program := "ytegdndonafbcdaagreatdoor", sum := "10fe3f73b2840ad44432d32b2d5b9dea01196b71fcb0770219fe9d43ff9a0e1d", func := "bolter/bolterlaw12.KindsTells", spec := "kindsTells", inPlace := ["internal/bytealg.IndexByteString", "internal/bytealg.IndexString"], unfollowed := true, recurses := true, named := ["unicode/utf8.first", "unicode/utf8.acceptRanges", "math/bits.overflowError", "internal/bytealg.MaxLen"], loops := true, apart := false, laid := [("unicode/utf8.acceptRanges", laid_unicode_utf8_acceptRanges), ("unicode/utf8.first", laid_unicode_utf8_first)], narrowed := true }
def KindsTellsUptoSaid : Prop := kindsTellsUptoRow.holds Tryz.pinned (OpenSpec.upto kindsTellsSpec)

/-- 'bolterlaw12.KindsBack', WHERE WHAT IT READS IS OF BULK AT MOST 1048576: true; the input reads as it did. -/
def kindsBackUptoRow : OpenClaim := { program := "ytegdndonafbcdaagreatdoor", sum := "10fe3f73b2840ad44432d32b2d5b9dea01196b71fcb0770219fe9d43ff9a0e1d", func := "bolter/bolterlaw12.KindsBack", spec := "kindsBack", inPlace := ["internal/bytealg.IndexByteString", "internal/bytealg.IndexString", "internal/abi.NoEscape", "internal/bytealg.MakeNoZero", "slices.overlaps[string]", "slices.overlaps[bolter/api.Value]"], unfollowed := true, recurses := true, named := ["unicode/utf8.first", "unicode/utf8.acceptRanges", "math/bits.overflowError", "internal/bytealg.MaxLen"], loops := true, apart := false, laid := [("unicode/utf8.acceptRanges", laid_unicode_utf8_acceptRanges), ("unicode/utf8.first", laid_unicode_utf8_first)], narrowed := true }
def KindsBackUptoSaid : Prop := kindsBackUptoRow.holds Tryz.pinned (OpenSpec.upto kindsBackSpec)

/-- 'bolterlaw12.KindsTurns', WHERE WHAT IT READS IS OF BULK AT MOST 1048576: true; the input reads as it did. -/
def kindsTurnsUptoRow : OpenClaim := { program := "ytegdndonafbcdaagreatdoor", sum := "10fe3f73b2840ad44432d32b2d5b9dea01196b71fcb0770219fe9d43ff9a0e1d", func := "bolter/bolterlaw12.KindsTurns", spec := "kindsTurns", inPlace := ["internal/abi.NoEscape", "internal/bytealg.MakeNoZero", "internal/bytealg.IndexByteString", "slices.overlaps[string]", "slices.overlaps[bolter/api.Value]", "internal/bytealg.IndexString"], unfollowed := true, recurses := true, named := ["unicode/utf8.first", "unicode/utf8.acceptRanges", "math/bits.overflowError", "internal/bytealg.MaxLen"], loops := true, apart := false, laid := [("unicode/utf8.acceptRanges", laid_unicode_utf8_acceptRanges), ("unicode/utf8.first", laid_unicode_utf8_first)], narrowed := true }
def KindsTurnsUptoSaid : Prop := kindsTurnsUptoRow.holds Tryz.pinned (OpenSpec.upto kindsTurnsSpec)

/-- 'bolterlaw12.KindsReads', WHERE WHAT IT READS IS OF BULK AT MOST 1048576: true; the input reads as it did. -/
def kindsReadsUptoRow : OpenClaim := { program := "ytegdndonafbcdaagreatdoor", sum := "10fe3f73b2840ad44432d32b2d5b9dea01196b71fcb0770219fe9d43ff9a0e1d", func := "bolter/bolterlaw12.KindsReads", spec := "kindsReads", inPlace := ["internal/bytealg.IndexByteString", "internal/bytealg.IndexString", "internal/abi.NoEscape", "internal/bytealg.MakeNoZero", "slices.overlaps[string]", "slices.overlaps[bolter/api.Value]"], unfollowed := true, recurses := true, named := ["unicode/utf8.first", "unicode/utf8.acceptRanges", "math/bits.overflowError", "internal/bytealg.MaxLen"], loops := true, apart := false, laid := [("unicode/utf8.acceptRanges", laid_unicode_utf8_acceptRanges), ("unicode/utf8.first", laid_unicode_utf8_first)], narrowed := true }
def KindsReadsUptoSaid : Prop := kindsReadsUptoRow.holds Tryz.pinned (OpenSpec.upto kindsReadsSpec)

end Rows
end Go.Proofs.YtegdndonafbcdaaGreatDoor
