/-
  NARROWER THAN 'FOR EVERY INPUT', by the rows' own cells (each row's printed sentence says how): ObjectsRuns: laid · ObjectsRaw: laid · ObjectsTwo: laid · ObjectsFull: laid · ObjectsWhere: laid · ObjectsCrash: laid · ObjectsGoes: laid · ObjectsDown: laid.
  DERIVED. THE GIVEN ROWS OF THIS SEAT. 8 by the template 'for every input the law returns true; each argument reads behind the call as it read before'; 0 by the template 'total and deterministic' (their statements: YtiiinmleiigckaaGreatDoorTotals.lean).
  GIVEN WITH THE SEED: the statements are not yours to turn. If you find one false, say at which input.
  Laid BY PROGRAM, IN A SANDBOX (cutbox-rows.mjs): the forced cells as the released guide's own fill.sh prints them over the translation 5e2c3d5d7db4feb3… (all of the seat's roots in one cut). By AI agents, Wed Nov 11 2026. No macro, syntax, notation, axiom, sorry.
-/
import Derived.Test.YtiiinmleiigckaaGreatDoorChecked
import GoSem.PinnedTables
import GoSem.Claim
import GoSem.ClaimJoined
import GoSem.ClaimMapViews
import Derived.JoinedTies
import Derived.KernelRfl
namespace Go.Proofs.YtiiinmleiigckaaGreatDoor
/- THE CELL 'sum', in the pinned program and in every row, IS THE sha256 OF THE DUMP (.gsa) THAT YtiiinmleiigckaaGreatDoorProg.lean LOADS. Nothing in Lean hashes anything: it is a label: what it is worth is what the hold of that sum in a sandbox is worth. -/
noncomputable def Tryz.pinned : Pinned := { name := "ytiiinmleiigckaagreatdoor", sum := "5e2c3d5d7db4feb3113f5e0fe36737d38507237bc2643c66349041a5f230f763", checked := Tryz.checked }
namespace Rows
def none {H : Type} : Left H := { results := [], args := [] }

/- WHAT THE LISTED PACKAGE-LEVEL VARIABLES READ AS WHEN THE CALL BEGINS. Each datum BY PROGRAM (the guide's laid-datum.mjs) off the statement by which the dump's own 'gosem.cut.vars' lays the variable. In a bare row this is a premise. The card (YtiiinmleiigckaaGreatDoorCards.lean) ties it to the program's text. -/
def laid_unicode_utf8_acceptRanges {H : Type} : DataW H := .agg [.agg [.lit (.int .u8 128), .lit (.int .u8 191)], .agg [.lit (.int .u8 160), .lit (.int .u8 191)], .agg [.lit (.int .u8 128), .lit (.int .u8 159)], .agg [.lit (.int .u8 144), .lit (.int .u8 191)], .agg [.lit (.int .u8 128), .lit (.int .u8 143)], .agg [.lit (.int .u8 0), .lit (.int .u8 0)], .agg [.lit (.int .u8 0), .lit (.int .u8 0)], .agg [.lit (.int .u8 0), .lit (.int .u8 0)], .agg [.lit (.int .u8 0), .lit (.int .u8 0)], .agg [.lit (.int .u8 0), .lit (.int .u8 0)], .agg [.lit (.int .u8 0), .lit (.int .u8 0)], .agg [.lit (.int .u8 0), .lit (.int .u8 0)], .agg [.lit (.int .u8 0), .lit (.int .u8 0)], .agg [.lit (.int .u8 0), .lit (.int .u8 0)], .agg [.lit (.int .u8 0), .lit (.int .u8 0)], .agg [.lit (.int .u8 0), .lit (.int .u8 0)]]
/-- One of Go's own tables, pinned by name: the form's constant. -/
def laid_unicode_utf8_first : DataW Unit := Go.Pinned.utf8First

/-- 'shelfmarklaw17.ObjectsRuns': WHATEVER THE INPUT: true; the input reads as it did. -/
def objectsRunsSpec : ChangeSpec := { name := "objectsRuns", fn := fun _ => fun
  | [d1, d2, d3] => { results := [.lit (.bool true)], args := [d1, d2, d3] }
  | _ => none }
def objectsRunsRow : OpenClaim := { program := "ytiiinmleiigckaagreatdoor", sum := "5e2c3d5d7db4feb3113f5e0fe36737d38507237bc2643c66349041a5f230f763", func := "shelfmark/shelfmarklaw17.ObjectsRuns", spec := "objectsRuns", inPlace := ["internal/abi.NoEscape", "internal/bytealg.MakeNoZero", "internal/bytealg.IndexByteString", "internal/bytealg.IndexString", "maps.clone"], unfollowed := true, recurses := true, named := ["unicode/utf8.first", "unicode/utf8.acceptRanges", "internal/bytealg.MaxLen"], apart := false, laid := [("unicode/utf8.acceptRanges", laid_unicode_utf8_acceptRanges), ("unicode/utf8.first", laid_unicode_utf8_first)] }
def ObjectsRunsSaid : Prop := objectsRunsRow.holds Tryz.pinned (OpenSpec.ofChange objectsRunsSpec)

/-- ITS FALSE NEIGHBOUR: 'it returns false'. Refute it at one input. -/
def objectsRunsWrong : ChangeSpec := { name := "objectsRuns", fn := fun _ => fun
  | [d1, d2, d3] => { results := [.lit (.bool false)], args := [d1, d2, d3] }
  | _ => none }
def ObjectsRunsWrongFalsely : Prop := objectsRunsRow.holds Tryz.pinned (OpenSpec.ofChange objectsRunsWrong)

/-- 'shelfmarklaw17.ObjectsRaw': WHATEVER THE INPUT: true; the input reads as it did. -/
def objectsRawSpec : ChangeSpec := { name := "objectsRaw", fn := fun _ => fun
  | [d1, d2] => { results := [.lit (.bool true)], args := [d1, d2] }
  | _ => none }
def objectsRawRow : OpenClaim := { program := "ytiiinmleiigckaagreatdoor", sum := "5e2c3d5d7db4feb3113f5e0fe36737d38507237bc2643c66349041a5f230f763", func := "shelfmark/shelfmarklaw17.ObjectsRaw", spec := "objectsRaw", inPlace := ["internal/abi.NoEscape", "internal/bytealg.MakeNoZero", "internal/bytealg.IndexByteString", "internal/bytealg.IndexString", "maps.clone"], unfollowed := true, recurses := true, named := ["unicode/utf8.first", "unicode/utf8.acceptRanges", "internal/bytealg.MaxLen"], apart := false, laid := [("unicode/utf8.acceptRanges", laid_unicode_utf8_acceptRanges), ("unicode/utf8.first", laid_unicode_utf8_first)] }
def ObjectsRawSaid : Prop := objectsRawRow.holds Tryz.pinned (OpenSpec.ofChange objectsRawSpec)

/-- ITS FALSE NEIGHBOUR: 'it returns false'. Refute it at one input. -/
def objectsRawWrong : ChangeSpec := { name := "objectsRaw", fn := fun _ => fun
  | [d1, d2] => { results := [.lit (.bool false)], args := [d1, d2] }
  | _ => none }
def ObjectsRawWrongFalsely : Prop := objectsRawRow.holds Tryz.pinned (OpenSpec.ofChange objectsRawWrong)

/-- 'shelfmarklaw17.ObjectsTwo': WHATEVER THE INPUT: true; the input reads as it did. -/
def objectsTwoSpec : ChangeSpec := { name := "objectsTwo", fn := fun _ => fun
  | [d1, d2] => { results := [.lit (.bool true)], args := [d1, d2] }
  | _ => none }
def objectsTwoRow : OpenClaim := { program := "ytiiinmleiigckaagreatdoor", sum := "5e2c3d5d7db4feb3113f5e0fe36737d38507237bc2643c66349041a5f230f763", func := "shelfmark/shelfmarklaw17.ObjectsTwo", spec := "objectsTwo", inPlace := ["internal/abi.NoEscape", "internal/bytealg.MakeNoZero", "internal/bytealg.IndexByteString", "internal/bytealg.IndexString", "maps.clone"], unfollowed := true, recurses := true, named := ["unicode/utf8.first", "unicode/utf8.acceptRanges", "internal/bytealg.MaxLen"], apart := false, laid := [("unicode/utf8.acceptRanges", laid_unicode_utf8_acceptRanges), ("unicode/utf8.first", laid_unicode_utf8_first)] }
def ObjectsTwoSaid : Prop := objectsTwoRow.holds Tryz.pinned (OpenSpec.ofChange objectsTwoSpec)

/-- ITS FALSE NEIGHBOUR: 'it returns false'. Refute it at one input. -/
def objectsTwoWrong : ChangeSpec := { name := "objectsTwo", fn := fun _ => fun
  | [d1, d2] => { results := [.lit (.bool false)], args := [d1, d2] }
  | _ => none }
def ObjectsTwoWrongFalsely : Prop := objectsTwoRow.holds Tryz.pinned (OpenSpec.ofChange objectsTwoWrong)

/-- 'shelfmarklaw17.ObjectsFull': WHATEVER THE INPUT: true; the input reads as it did. -/
def objectsFullSpec : ChangeSpec := { name := "objectsFull", fn := fun _ => fun
  | [d1, d2] => { results := [.lit (.bool true)], args := [d1, d2] }
  | _ => none }
def objectsFullRow : OpenClaim := { program := "ytiiinmleiigckaagreatdoor", sum := "5e2c3d5d7db4feb3113f5e0fe36737d38507237bc2643c66349041a5f230f763", func := "shelfmark/shelfmarklaw17.ObjectsFull", spec := "objectsFull", inPlace := ["internal/abi.NoEscape", "internal/bytealg.MakeNoZero", "internal/bytealg.IndexByteString", "internal/bytealg.IndexString", "maps.clone"], unfollowed := true, recurses := true, named := ["unicode/utf8.first", "unicode/utf8.acceptRanges", "internal/bytealg.MaxLen"], apart := false, laid := [("unicode/utf8.acceptRanges", laid_unicode_utf8_acceptRanges), ("unicode/utf8.first", laid_unicode_utf8_first)] }
def ObjectsFullSaid : Prop := objectsFullRow.holds Tryz.pinned (OpenSpec.ofChange objectsFullSpec)

/-- ITS FALSE NEIGHBOUR: 'it returns false'. Refute it at one input. -/
def objectsFullWrong : ChangeSpec := { name := "objectsFull", fn := fun _ => fun
  | [d1, d2] => { results := [.lit (.bool false)], args := [d1, d2] }
  | _ => none }
def ObjectsFullWrongFalsely : Prop := objectsFullRow.holds Tryz.pinned (OpenSpec.ofChange objectsFullWrong)

/-- 'shelfmarklaw17.ObjectsWhere': WHATEVER THE INPUT: true; the input reads as it did. -/
def objectsWhereSpec : ChangeSpec := { name := "objectsWhere", fn := fun _ => fun
  | [d1, d2, d3, d4] => { results := [.lit (.bool true)], args := [d1, d2, d3, d4] }
  | _ => none }
def objectsWhereRow : OpenClaim := { program := "ytiiinmleiigckaagreatdoor", sum := "5e2c3d5d7db4feb3113f5e0fe36737d38507237bc2643c66349041a5f230f763", func := "shelfmark/shelfmarklaw17.ObjectsWhere", spec := "objectsWhere", inPlace := ["internal/abi.NoEscape", "internal/bytealg.MakeNoZero", "internal/bytealg.IndexByteString", "internal/bytealg.IndexString", "maps.clone"], unfollowed := true, recurses := true, named := ["unicode/utf8.first", "unicode/utf8.acceptRanges", "internal/bytealg.MaxLen"], apart := false, laid := [("unicode/utf8.acceptRanges", laid_unicode_utf8_acceptRanges), ("unicode/utf8.first", laid_unicode_utf8_first)] }
def ObjectsWhereSaid : Prop := objectsWhereRow.holds Tryz.pinned (OpenSpec.ofChange objectsWhereSpec)

/-- ITS FALSE NEIGHBOUR: 'it returns false'. Refute it at one input. -/
def objectsWhereWrong : ChangeSpec := { name := "objectsWhere", fn := fun _ => fun
  | [d1, d2, d3, d4] => { results := [.lit (.bool false)], args := [d1, d2, d3, d4] }
  | _ => none }
def ObjectsWhereWrongFalsely : Prop := objectsWhereRow.holds Tryz.pinned (OpenSpec.ofChange objectsWhereWrong)

/-- 'shelfmarklaw17.ObjectsCrash': WHATEVER THE INPUT: true; the input reads as it did. -/
def objectsCrashSpec : ChangeSpec := { name := "objectsCrash", fn := fun _ => fun
  | [d1, d2, d3, d4, d5, d6] => { results := [.lit (.bool true)], args := [d1, d2, d3, d4, d5, d6] }
  | _ => none }
def objectsCrashRow : OpenClaim := { program := "ytiiinmleiigckaagreatdoor", sum := "5e2c3d5d7db4feb3113f5e0fe36737d38507237bc2643c66349041a5f230f763", func := "shelfmark/shelfmarklaw17.ObjectsCrash", spec := "objectsCrash", inPlace := ["internal/abi.NoEscape", "internal/bytealg.MakeNoZero", "internal/bytealg.IndexByteString", "internal/bytealg.IndexString", "maps.clone"], unfollowed := true, recurses := true, named := ["unicode/utf8.first", "unicode/utf8.acceptRanges", "internal/bytealg.MaxLen"], apart := false, laid := [("unicode/utf8.acceptRanges", laid_unicode_utf8_acceptRanges), ("unicode/utf8.first", laid_unicode_utf8_first)] }
def ObjectsCrashSaid : Prop := objectsCrashRow.holds Tryz.pinned (OpenSpec.ofChange objectsCrashSpec)

/-- ITS FALSE NEIGHBOUR: 'it returns false'. Refute it at one input. -/
def objectsCrashWrong : ChangeSpec := { name := "objectsCrash", fn := fun _ => fun
  | [d1, d2, d3, d4, d5, d6] => { results := [.lit (.bool false)], args := [d1, d2, d3, d4, d5, d6] }
  | _ => none }
def ObjectsCrashWrongFalsely : Prop := objectsCrashRow.holds Tryz.pinned (OpenSpec.ofChange objectsCrashWrong)

/-- 'shelfmarklaw17.ObjectsGoes': WHATEVER THE INPUT: true; the input reads as it did. -/
def objectsGoesSpec : ChangeSpec := { name := "objectsGoes", fn := fun _ => fun
  | [d1, d2, d3] => { results := [.lit (.bool true)], args := [d1, d2, d3] }
  | _ => none }
def objectsGoesRow : OpenClaim := { program := "ytiiinmleiigckaagreatdoor", sum := "5e2c3d5d7db4feb3113f5e0fe36737d38507237bc2643c66349041a5f230f763", func := "shelfmark/shelfmarklaw17.ObjectsGoes", spec := "objectsGoes", inPlace := ["internal/abi.NoEscape", "internal/bytealg.MakeNoZero", "internal/bytealg.IndexByteString", "internal/bytealg.IndexString", "maps.clone"], unfollowed := true, recurses := true, named := ["unicode/utf8.first", "unicode/utf8.acceptRanges", "internal/bytealg.MaxLen"], apart := false, laid := [("unicode/utf8.acceptRanges", laid_unicode_utf8_acceptRanges), ("unicode/utf8.first", laid_unicode_utf8_first)] }
def ObjectsGoesSaid : Prop := objectsGoesRow.holds Tryz.pinned (OpenSpec.ofChange objectsGoesSpec)

/-- ITS FALSE NEIGHBOUR: 'it returns false'. Refute it at one input. -/
def objectsGoesWrong : ChangeSpec := { name := "objectsGoes", fn := fun _ => fun
  | [d1, d2, d3] => { results := [.lit (.bool false)], args := [d1, d2, d3] }
  | _ => none }
def ObjectsGoesWrongFalsely : Prop := objectsGoesRow.holds Tryz.pinned (OpenSpec.ofChange objectsGoesWrong)

/-- 'shelfmarklaw17.ObjectsDown': WHATEVER THE INPUT: true; the input reads as it did. -/
def objectsDownSpec : ChangeSpec := { name := "objectsDown", fn := fun _ => fun
  | [d1, d2] => { results := [.lit (.bool true)], args := [d1, d2] }
  | _ => none }
def objectsDownRow : OpenClaim := { program := "ytiiinmleiigckaagreatdoor", sum := "5e2c3d5d7db4feb3113f5e0fe36737d38507237bc2643c66349041a5f230f763", func := "shelfmark/shelfmarklaw17.ObjectsDown", spec := "objectsDown", inPlace := ["internal/abi.NoEscape", "internal/bytealg.MakeNoZero", "internal/bytealg.IndexByteString", "internal/bytealg.IndexString", "maps.clone"], unfollowed := true, recurses := true, named := ["unicode/utf8.first", "unicode/utf8.acceptRanges", "internal/bytealg.MaxLen"], apart := false, laid := [("unicode/utf8.acceptRanges", laid_unicode_utf8_acceptRanges), ("unicode/utf8.first", laid_unicode_utf8_first)] }
def ObjectsDownSaid : Prop := objectsDownRow.holds Tryz.pinned (OpenSpec.ofChange objectsDownSpec)

/-- ITS FALSE NEIGHBOUR: 'it returns false'. Refute it at one input. -/
def objectsDownWrong : ChangeSpec := { name := "objectsDown", fn := fun _ => fun
  | [d1, d2] => { results := [.lit (.bool false)], args := [d1, d2] }
  | _ => none }
def ObjectsDownWrongFalsely : Prop := objectsDownRow.holds Tryz.pinned (OpenSpec.ofChange objectsDownWrong)

/- THE SECOND FORM. 'bulk': how many values and letters a reading holds, each counted each time it is reached (what is shared counts as often as it is met; a slice's spare places count too). A statement '..UptoSaid' is the law's where the arguments, and the package variables that the reading takes, are together of bulk at most 1048576: NARROWER than '..Said'. Prove '..Said' where nothing that the law and all that it calls make is longer than what came in: it says more and counts as full. Else prove '..UptoSaid'. A law counts once. -/
mutual
def uptoBulk {H : Type} : DataW H → Nat
  | .lit (.string bytes) => bytes.length + 1
  | .lit _ => 1
  | .nil => 1
  | .ptr d => uptoBulk d + 1
  | .slice elems spare => uptoBulkAll elems + uptoBulkAll spare + 1
  | .agg parts => uptoBulkAll parts + 1
  | .iface _ d => uptoBulk d + 1
  | .map entries => uptoBulkEntries entries + 1
  | .held _ => 1
def uptoBulkAll {H : Type} : List (DataW H) → Nat
  | [] => 0
  | d :: r => uptoBulk d + uptoBulkAll r
def uptoBulkEntries {H : Type} : List (Lit × DataW H) → Nat
  | [] => 0
  | x :: r => uptoBulkEntry x + uptoBulkEntries r
def uptoBulkEntry {H : Type} : Lit × DataW H → Nat
  | (.string bytes, d) => bytes.length + uptoBulk d + 1
  | (_, d) => uptoBulk d + 1
 end
def uptoSmall : (H : Type) → List (DataW H) → Bool := fun _ ds => decide (uptoBulkAll ds ≤ 1048576)
def OpenSpec.upto (s : _root_.Go.ChangeSpec) : _root_.Go.OpenSpec := { _root_.Go.OpenSpec.ofChange s with cond := some uptoSmall }

/-- 'shelfmarklaw17.ObjectsRuns', WHERE WHAT IT READS IS OF BULK AT MOST 1048576: true; the input reads as it did. -/
def objectsRunsUptoRow : OpenClaim := { program := "ytiiinmleiigckaagreatdoor", sum := "5e2c3d5d7db4feb3113f5e0fe36737d38507237bc2643c66349041a5f230f763", func := "shelfmark/shelfmarklaw17.ObjectsRuns", spec := "objectsRuns", inPlace := ["internal/abi.NoEscape", "internal/bytealg.MakeNoZero", "internal/bytealg.IndexByteString", "internal/bytealg.IndexString", "maps.clone"], unfollowed := true, recurses := true, named := ["unicode/utf8.first", "unicode/utf8.acceptRanges", "internal/bytealg.MaxLen"], apart := false, laid := [("unicode/utf8.acceptRanges", laid_unicode_utf8_acceptRanges), ("unicode/utf8.first", laid_unicode_utf8_first)], narrowed := true }
def ObjectsRunsUptoSaid : Prop := objectsRunsUptoRow.holds Tryz.pinned (OpenSpec.upto objectsRunsSpec)

/-- 'shelfmarklaw17.ObjectsRaw', WHERE WHAT IT READS IS OF BULK AT MOST 1048576: true; the input reads as it did. -/
def objectsRawUptoRow : OpenClaim := { program := "ytiiinmleiigckaagreatdoor", sum := "5e2c3d5d7db4feb3113f5e0fe36737d38507237bc2643c66349041a5f230f763", func := "shelfmark/shelfmarklaw17.ObjectsRaw", spec := "objectsRaw", inPlace := ["internal/abi.NoEscape", "internal/bytealg.MakeNoZero", "internal/bytealg.IndexByteString", "internal/bytealg.IndexString", "maps.clone"], unfollowed := true, recurses := true, named := ["unicode/utf8.first", "unicode/utf8.acceptRanges", "internal/bytealg.MaxLen"], apart := false, laid := [("unicode/utf8.acceptRanges", laid_unicode_utf8_acceptRanges), ("unicode/utf8.first", laid_unicode_utf8_first)], narrowed := true }
def ObjectsRawUptoSaid : Prop := objectsRawUptoRow.holds Tryz.pinned (OpenSpec.upto objectsRawSpec)

/-- 'shelfmarklaw17.ObjectsTwo', WHERE WHAT IT READS IS OF BULK AT MOST 1048576: true; the input reads as it did. -/
def objectsTwoUptoRow : OpenClaim := { program := "ytiiinmleiigckaagreatdoor", sum := "5e2c3d5d7db4feb3113f5e0fe36737d38507237bc2643c66349041a5f230f763", func := "shelfmark/shelfmarklaw17.ObjectsTwo", spec := "objectsTwo", inPlace := ["internal/abi.NoEscape", "internal/bytealg.MakeNoZero", "internal/bytealg.IndexByteString", "internal/bytealg.IndexString", "maps.clone"], unfollowed := true, recurses := true, named := ["unicode/utf8.first", "unicode/utf8.acceptRanges", "internal/bytealg.MaxLen"], apart := false, laid := [("unicode/utf8.acceptRanges", laid_unicode_utf8_acceptRanges), ("unicode/utf8.first", laid_unicode_utf8_first)], narrowed := true }
def ObjectsTwoUptoSaid : Prop := objectsTwoUptoRow.holds Tryz.pinned (OpenSpec.upto objectsTwoSpec)

/-- 'shelfmarklaw17.ObjectsFull', WHERE WHAT IT READS IS OF BULK AT MOST 1048576: true; the input reads as it did. -/
def objectsFullUptoRow : OpenClaim := { program := "ytiiinmleiigckaagreatdoor", sum := "5e2c3d5d7db4feb3113f5e0fe36737d38507237bc2643c66349041a5f230f763", func := "shelfmark/shelfmarklaw17.ObjectsFull", spec := "objectsFull", inPlace := ["internal/abi.NoEscape", "internal/bytealg.MakeNoZero", "internal/bytealg.IndexByteString", "internal/bytealg.IndexString", "maps.clone"], unfollowed := true, recurses := true, named := ["unicode/utf8.first", "unicode/utf8.acceptRanges", "internal/bytealg.MaxLen"], apart := false, laid := [("unicode/utf8.acceptRanges", laid_unicode_utf8_acceptRanges), ("unicode/utf8.first", laid_unicode_utf8_first)], narrowed := true }
def ObjectsFullUptoSaid : Prop := objectsFullUptoRow.holds Tryz.pinned (OpenSpec.upto objectsFullSpec)

/-- 'shelfmarklaw17.ObjectsWhere', WHERE WHAT IT READS IS OF BULK AT MOST 1048576: true; the input reads as it did. -/
def objectsWhereUptoRow : OpenClaim := { program := "ytiiinmleiigckaagreatdoor", sum := "5e2c3d5d7db4feb3113f5e0fe36737d38507237bc2643c66349041a5f230f763", func := "shelfmark/shelfmarklaw17.ObjectsWhere", spec := "objectsWhere", inPlace := ["internal/abi.NoEscape", "internal/bytealg.MakeNoZero", "internal/bytealg.IndexByteString", "internal/bytealg.IndexString", "maps.clone"], unfollowed := true, recurses := true, named := ["unicode/utf8.first", "unicode/utf8.acceptRanges", "internal/bytealg.MaxLen"], apart := false, laid := [("unicode/utf8.acceptRanges", laid_unicode_utf8_acceptRanges), ("unicode/utf8.first", laid_unicode_utf8_first)], narrowed := true }
def ObjectsWhereUptoSaid : Prop := objectsWhereUptoRow.holds Tryz.pinned (OpenSpec.upto objectsWhereSpec)

/-- 'shelfmarklaw17.ObjectsCrash', WHERE WHAT IT READS IS OF BULK AT MOST 1048576: true; the input reads as it did. -/
def objectsCrashUptoRow : OpenClaim := { program := "ytiiinmleiigckaagreatdoor", sum := "5e2c3d5d7db4feb3113f5e0fe36737d38507237bc2643c66349041a5f230f763", func := "shelfmark/shelfmarklaw17.ObjectsCrash", spec := "objectsCrash", inPlace := ["internal/abi.NoEscape", "internal/bytealg.MakeNoZero", "internal/bytealg.IndexByteString", "internal/bytealg.IndexString", "maps.clone"], unfollowed := true, recurses := true, named := ["unicode/utf8.first", "unicode/utf8.acceptRanges", "internal/bytealg.MaxLen"], apart := false, laid := [("unicode/utf8.acceptRanges", laid_unicode_utf8_acceptRanges), ("unicode/utf8.first", laid_unicode_utf8_first)], narrowed := true }
def ObjectsCrashUptoSaid : Prop := objectsCrashUptoRow.holds Tryz.pinned (OpenSpec.upto objectsCrashSpec)

/-- 'shelfmarklaw17.ObjectsGoes', WHERE WHAT IT READS IS OF BULK AT MOST 1048576: true; the input reads as it did. -/
def objectsGoesUptoRow : OpenClaim := { program := "ytiiinmleiigckaagreatdoor", sum := "5e2c3d5d7db4feb3113f5e0fe36737d38507237bc2643c66349041a5f230f763", func := "shelfmark/shelfmarklaw17.ObjectsGoes", spec := "objectsGoes", inPlace := ["internal/abi.NoEscape", "internal/bytealg.MakeNoZero", "internal/bytealg.IndexByteString", "internal/bytealg.IndexString", "maps.clone"], unfollowed := true, recurses := true, named := ["unicode/utf8.first", "unicode/utf8.acceptRanges", "internal/bytealg.MaxLen"], apart := false, laid := [("unicode/utf8.acceptRanges", laid_unicode_utf8_acceptRanges), ("unicode/utf8.first", laid_unicode_utf8_first)], narrowed := true }
def ObjectsGoesUptoSaid : Prop := objectsGoesUptoRow.holds Tryz.pinned (OpenSpec.upto objectsGoesSpec)

/-- 'shelfmarklaw17.ObjectsDown', WHERE WHAT IT READS IS OF BULK AT MOST 1048576: true; the input reads as it did. -/
def objectsDownUptoRow : OpenClaim := { program := "ytiiinmleiigckaagreatdoor", sum := "5e2c3d5d7db4feb3113f5e0fe36737d38507237bc2643c66349041a5f230f763", func := "shelfmark/shelfmarklaw17.ObjectsDown", spec := "objectsDown", inPlace := ["internal/abi.NoEscape", "internal/bytealg.MakeNoZero", "internal/bytealg.IndexByteString", "internal/bytealg.IndexString", "maps.clone"], unfollowed := true, recurses := true, named := ["unicode/utf8.first", "unicode/utf8.acceptRanges", "internal/bytealg.MaxLen"], apart := false, laid := [("unicode/utf8.acceptRanges", laid_unicode_utf8_acceptRanges), ("unicode/utf8.first", laid_unicode_utf8_first)], narrowed := true }
def ObjectsDownUptoSaid : Prop := objectsDownUptoRow.holds Tryz.pinned (OpenSpec.upto objectsDownSpec)

end Rows
end Go.Proofs.YtiiinmleiigckaaGreatDoor
