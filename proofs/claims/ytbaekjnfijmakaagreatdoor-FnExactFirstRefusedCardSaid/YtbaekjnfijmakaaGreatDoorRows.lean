/-
  NARROWER THAN 'FOR EVERY INPUT', by the rows' own cells (each row's printed sentence says how): FnFitsCall: laid · FnExactFits: laid · FnExactSameShapes: laid · FnFirstRefusedLeast: laid · FnFirstRefused: laid · FnFits: laid · FnExactShadowOf: laid · FnFitsTurned: laid · FnSameShapes: laid · FnExactFirstRefused: laid · FnShadowOf: laid.
  DERIVED. THE GIVEN ROWS OF THIS SEAT. 11 by the template 'for every input the law returns true; each argument reads behind the call as it read before'; 0 by the template 'total and deterministic' (their statements: YtbaekjnfijmakaaGreatDoorTotals.lean).
  GIVEN WITH THE SEED: the statements are not yours to turn. If you find one false, say at which input.
  Laid BY PROGRAM, IN A SANDBOX (cutbox-rows.mjs): the forced cells as the released guide's own fill.sh prints them over the translation 903ea3723f17a8f7… (all of the seat's roots in one cut). By AI agents, Wed Nov 11 2026. No macro, syntax, notation, axiom, sorry.
-/
import Derived.Test.YtbaekjnfijmakaaGreatDoorChecked
import GoSem.PinnedTables
import GoSem.Claim
import GoSem.ClaimJoined
import GoSem.ClaimMapViews
import Derived.JoinedTies
import Derived.KernelRfl
namespace Go.Proofs.YtbaekjnfijmakaaGreatDoor
/- THE CELL 'sum', in the pinned program and in every row, IS THE sha256 OF THE DUMP (.gsa) THAT YtbaekjnfijmakaaGreatDoorProg.lean LOADS. Nothing in Lean hashes anything: it is a label: what it is worth is what the hold of that sum in a sandbox is worth. -/
noncomputable def Tryz.pinned : Pinned := { name := "ytbaekjnfijmakaagreatdoor", sum := "903ea3723f17a8f7666caec441452192725e01324f391e7917cb5366e194ea28", checked := Tryz.checked }
namespace Rows
def none {H : Type} : Left H := { results := [], args := [] }

/- WHAT THE LISTED PACKAGE-LEVEL VARIABLES READ AS WHEN THE CALL BEGINS. Each datum BY PROGRAM (the guide's laid-datum.mjs) off the statement by which the dump's own 'gosem.cut.vars' lays the variable. In a bare row this is a premise. The card (YtbaekjnfijmakaaGreatDoorCards.lean) ties it to the program's text. -/
def laid_unicode_utf8_acceptRanges {H : Type} : DataW H := .agg [.agg [.lit (.int .u8 128), .lit (.int .u8 191)], .agg [.lit (.int .u8 160), .lit (.int .u8 191)], .agg [.lit (.int .u8 128), .lit (.int .u8 159)], .agg [.lit (.int .u8 144), .lit (.int .u8 191)], .agg [.lit (.int .u8 128), .lit (.int .u8 143)], .agg [.lit (.int .u8 0), .lit (.int .u8 0)], .agg [.lit (.int .u8 0), .lit (.int .u8 0)], .agg [.lit (.int .u8 0), .lit (.int .u8 0)], .agg [.lit (.int .u8 0), .lit (.int .u8 0)], .agg [.lit (.int .u8 0), .lit (.int .u8 0)], .agg [.lit (.int .u8 0), .lit (.int .u8 0)], .agg [.lit (.int .u8 0), .lit (.int .u8 0)], .agg [.lit (.int .u8 0), .lit (.int .u8 0)], .agg [.lit (.int .u8 0), .lit (.int .u8 0)], .agg [.lit (.int .u8 0), .lit (.int .u8 0)], .agg [.lit (.int .u8 0), .lit (.int .u8 0)]]
/-- One of Go's own tables, pinned by name: the form's constant. -/
def laid_unicode_utf8_first : DataW Unit := Go.Pinned.utf8First

/-- 'laws.FnFitsCall': WHATEVER THE INPUT: true; the input reads as it did. -/
def fnFitsCallSpec : ChangeSpec := { name := "fnFitsCall", fn := fun _ => fun
  | [d] => { results := [.lit (.bool true)], args := [d] }
  | _ => none }
def fnFitsCallRow : OpenClaim := { program := "ytbaekjnfijmakaagreatdoor", sum := "903ea3723f17a8f7666caec441452192725e01324f391e7917cb5366e194ea28", func := "loop.example/callbinding/laws.FnFitsCall", spec := "fnFitsCall", inPlace := ["internal/bytealg.IndexByteString", "internal/bytealg.IndexString"], unfollowed := true, recurses := true, named := ["unicode/utf8.first", "unicode/utf8.acceptRanges", "internal/bytealg.MaxLen"], apart := false, laid := [("unicode/utf8.acceptRanges", laid_unicode_utf8_acceptRanges), ("unicode/utf8.first", laid_unicode_utf8_first)] }
def FnFitsCallSaid : Prop := fnFitsCallRow.holds Tryz.pinned (OpenSpec.ofChange fnFitsCallSpec)

/-- ITS FALSE NEIGHBOUR: 'it returns false'. Refute it at one input. -/
def fnFitsCallWrong : ChangeSpec := { name := "fnFitsCall", fn := fun _ => fun
  | [d] => { results := [.lit (.bool false)], args := [d] }
  | _ => none }
def FnFitsCallWrongFalsely : Prop := fnFitsCallRow.holds Tryz.pinned (OpenSpec.ofChange fnFitsCallWrong)

/-- 'laws.FnExactFits': WHATEVER THE INPUT: true; the input reads as it did. -/
def fnExactFitsSpec : ChangeSpec := { name := "fnExactFits", fn := fun _ => fun
  | [d1, d2] => { results := [.lit (.bool true)], args := [d1, d2] }
  | _ => none }
def fnExactFitsRow : OpenClaim := { program := "ytbaekjnfijmakaagreatdoor", sum := "903ea3723f17a8f7666caec441452192725e01324f391e7917cb5366e194ea28", func := "loop.example/callbinding/laws.FnExactFits", spec := "fnExactFits", inPlace := ["internal/bytealg.IndexByteString", "internal/bytealg.IndexString"], unfollowed := true, recurses := true, named := ["unicode/utf8.first", "unicode/utf8.acceptRanges", "internal/bytealg.MaxLen"], apart := false, laid := [("unicode/utf8.acceptRanges", laid_unicode_utf8_acceptRanges), ("unicode/utf8.first", laid_unicode_utf8_first)] }
def FnExactFitsSaid : Prop := fnExactFitsRow.holds Tryz.pinned (OpenSpec.ofChange fnExactFitsSpec)

/-- ITS FALSE NEIGHBOUR: 'it returns false'. Refute it at one input. -/
def fnExactFitsWrong : ChangeSpec := { name := "fnExactFits", fn := fun _ => fun
  | [d1, d2] => { results := [.lit (.bool false)], args := [d1, d2] }
  | _ => none }
def FnExactFitsWrongFalsely : Prop := fnExactFitsRow.holds Tryz.pinned (OpenSpec.ofChange fnExactFitsWrong)

/-- 'laws.FnExactSameShapes': WHATEVER THE INPUT: true; the input reads as it did. -/
def fnExactSameShapesSpec : ChangeSpec := { name := "fnExactSameShapes", fn := fun _ => fun
  | [d1, d2] => { results := [.lit (.bool true)], args := [d1, d2] }
  | _ => none }
def fnExactSameShapesRow : OpenClaim := { program := "ytbaekjnfijmakaagreatdoor", sum := "903ea3723f17a8f7666caec441452192725e01324f391e7917cb5366e194ea28", func := "loop.example/callbinding/laws.FnExactSameShapes", spec := "fnExactSameShapes", inPlace := ["internal/bytealg.IndexByteString", "internal/bytealg.IndexString"], unfollowed := true, recurses := true, named := ["unicode/utf8.first", "unicode/utf8.acceptRanges", "internal/bytealg.MaxLen"], apart := false, laid := [("unicode/utf8.acceptRanges", laid_unicode_utf8_acceptRanges), ("unicode/utf8.first", laid_unicode_utf8_first)] }
def FnExactSameShapesSaid : Prop := fnExactSameShapesRow.holds Tryz.pinned (OpenSpec.ofChange fnExactSameShapesSpec)

/-- ITS FALSE NEIGHBOUR: 'it returns false'. Refute it at one input. -/
def fnExactSameShapesWrong : ChangeSpec := { name := "fnExactSameShapes", fn := fun _ => fun
  | [d1, d2] => { results := [.lit (.bool false)], args := [d1, d2] }
  | _ => none }
def FnExactSameShapesWrongFalsely : Prop := fnExactSameShapesRow.holds Tryz.pinned (OpenSpec.ofChange fnExactSameShapesWrong)

/-- 'laws.FnFirstRefusedLeast': WHATEVER THE INPUT: true; the input reads as it did. -/
def fnFirstRefusedLeastSpec : ChangeSpec := { name := "fnFirstRefusedLeast", fn := fun _ => fun
  | [d] => { results := [.lit (.bool true)], args := [d] }
  | _ => none }
def fnFirstRefusedLeastRow : OpenClaim := { program := "ytbaekjnfijmakaagreatdoor", sum := "903ea3723f17a8f7666caec441452192725e01324f391e7917cb5366e194ea28", func := "loop.example/callbinding/laws.FnFirstRefusedLeast", spec := "fnFirstRefusedLeast", inPlace := ["internal/bytealg.IndexByteString", "internal/bytealg.IndexString"], unfollowed := true, recurses := true, named := ["unicode/utf8.first", "unicode/utf8.acceptRanges", "internal/bytealg.MaxLen"], apart := false, laid := [("unicode/utf8.acceptRanges", laid_unicode_utf8_acceptRanges), ("unicode/utf8.first", laid_unicode_utf8_first)] }
def FnFirstRefusedLeastSaid : Prop := fnFirstRefusedLeastRow.holds Tryz.pinned (OpenSpec.ofChange fnFirstRefusedLeastSpec)

/-- ITS FALSE NEIGHBOUR: 'it returns false'. Refute it at one input. -/
def fnFirstRefusedLeastWrong : ChangeSpec := { name := "fnFirstRefusedLeast", fn := fun _ => fun
  | [d] => { results := [.lit (.bool false)], args := [d] }
  | _ => none }
def FnFirstRefusedLeastWrongFalsely : Prop := fnFirstRefusedLeastRow.holds Tryz.pinned (OpenSpec.ofChange fnFirstRefusedLeastWrong)

/-- 'laws.FnFirstRefused': WHATEVER THE INPUT: true; the input reads as it did. -/
def fnFirstRefusedSpec : ChangeSpec := { name := "fnFirstRefused", fn := fun _ => fun
  | [d] => { results := [.lit (.bool true)], args := [d] }
  | _ => none }
def fnFirstRefusedRow : OpenClaim := { program := "ytbaekjnfijmakaagreatdoor", sum := "903ea3723f17a8f7666caec441452192725e01324f391e7917cb5366e194ea28", func := "loop.example/callbinding/laws.FnFirstRefused", spec := "fnFirstRefused", inPlace := ["internal/bytealg.IndexByteString", "internal/bytealg.IndexString"], unfollowed := true, recurses := true, named := ["unicode/utf8.first", "unicode/utf8.acceptRanges", "internal/bytealg.MaxLen"], apart := false, laid := [("unicode/utf8.acceptRanges", laid_unicode_utf8_acceptRanges), ("unicode/utf8.first", laid_unicode_utf8_first)] }
def FnFirstRefusedSaid : Prop := fnFirstRefusedRow.holds Tryz.pinned (OpenSpec.ofChange fnFirstRefusedSpec)

/-- ITS FALSE NEIGHBOUR: 'it returns false'. Refute it at one input. -/
def fnFirstRefusedWrong : ChangeSpec := { name := "fnFirstRefused", fn := fun _ => fun
  | [d] => { results := [.lit (.bool false)], args := [d] }
  | _ => none }
def FnFirstRefusedWrongFalsely : Prop := fnFirstRefusedRow.holds Tryz.pinned (OpenSpec.ofChange fnFirstRefusedWrong)

/-- 'laws.FnFits': WHATEVER THE INPUT: true; the input reads as it did. -/
def fnFitsSpec : ChangeSpec := { name := "fnFits", fn := fun _ => fun
  | [d] => { results := [.lit (.bool true)], args := [d] }
  | _ => none }
def fnFitsRow : OpenClaim := { program := "ytbaekjnfijmakaagreatdoor", sum := "903ea3723f17a8f7666caec441452192725e01324f391e7917cb5366e194ea28", func := "loop.example/callbinding/laws.FnFits", spec := "fnFits", inPlace := ["internal/bytealg.IndexByteString", "internal/bytealg.IndexString"], unfollowed := true, recurses := true, named := ["unicode/utf8.first", "unicode/utf8.acceptRanges", "internal/bytealg.MaxLen"], apart := false, laid := [("unicode/utf8.acceptRanges", laid_unicode_utf8_acceptRanges), ("unicode/utf8.first", laid_unicode_utf8_first)] }
def FnFitsSaid : Prop := fnFitsRow.holds Tryz.pinned (OpenSpec.ofChange fnFitsSpec)

/-- ITS FALSE NEIGHBOUR: 'it returns false'. Refute it at one input. -/
def fnFitsWrong : ChangeSpec := { name := "fnFits", fn := fun _ => fun
  | [d] => { results := [.lit (.bool false)], args := [d] }
  | _ => none }
def FnFitsWrongFalsely : Prop := fnFitsRow.holds Tryz.pinned (OpenSpec.ofChange fnFitsWrong)

/-- 'laws.FnExactShadowOf': WHATEVER THE INPUT: true; the input reads as it did. -/
def fnExactShadowOfSpec : ChangeSpec := { name := "fnExactShadowOf", fn := fun _ => fun
  | [d1, d2] => { results := [.lit (.bool true)], args := [d1, d2] }
  | _ => none }
def fnExactShadowOfRow : OpenClaim := { program := "ytbaekjnfijmakaagreatdoor", sum := "903ea3723f17a8f7666caec441452192725e01324f391e7917cb5366e194ea28", func := "loop.example/callbinding/laws.FnExactShadowOf", spec := "fnExactShadowOf", inPlace := ["internal/bytealg.IndexByteString", "internal/bytealg.IndexString"], unfollowed := true, recurses := true, named := ["unicode/utf8.first", "unicode/utf8.acceptRanges", "internal/bytealg.MaxLen"], apart := false, laid := [("unicode/utf8.acceptRanges", laid_unicode_utf8_acceptRanges), ("unicode/utf8.first", laid_unicode_utf8_first)] }
def FnExactShadowOfSaid : Prop := fnExactShadowOfRow.holds Tryz.pinned (OpenSpec.ofChange fnExactShadowOfSpec)

/-- ITS FALSE NEIGHBOUR: 'it returns false'. Refute it at one input. -/
def fnExactShadowOfWrong : ChangeSpec := { name := "fnExactShadowOf", fn := fun _ => fun
  | [d1, d2] => { results := [.lit (.bool false)], args := [d1, d2] }
  | _ => none }
def FnExactShadowOfWrongFalsely : Prop := fnExactShadowOfRow.holds Tryz.pinned (OpenSpec.ofChange fnExactShadowOfWrong)

/-- 'laws.FnFitsTurned': WHATEVER THE INPUT: true; the input reads as it did. -/
def fnFitsTurnedSpec : ChangeSpec := { name := "fnFitsTurned", fn := fun _ => fun
  | [d] => { results := [.lit (.bool true)], args := [d] }
  | _ => none }
def fnFitsTurnedRow : OpenClaim := { program := "ytbaekjnfijmakaagreatdoor", sum := "903ea3723f17a8f7666caec441452192725e01324f391e7917cb5366e194ea28", func := "loop.example/callbinding/laws.FnFitsTurned", spec := "fnFitsTurned", inPlace := ["internal/bytealg.IndexByteString", "internal/bytealg.IndexString"], unfollowed := true, recurses := true, named := ["unicode/utf8.first", "unicode/utf8.acceptRanges", "internal/bytealg.MaxLen"], apart := false, laid := [("unicode/utf8.acceptRanges", laid_unicode_utf8_acceptRanges), ("unicode/utf8.first", laid_unicode_utf8_first)] }
def FnFitsTurnedSaid : Prop := fnFitsTurnedRow.holds Tryz.pinned (OpenSpec.ofChange fnFitsTurnedSpec)

/-- ITS FALSE NEIGHBOUR: 'it returns false'. Refute it at one input. -/
def fnFitsTurnedWrong : ChangeSpec := { name := "fnFitsTurned", fn := fun _ => fun
  | [d] => { results := [.lit (.bool false)], args := [d] }
  | _ => none }
def FnFitsTurnedWrongFalsely : Prop := fnFitsTurnedRow.holds Tryz.pinned (OpenSpec.ofChange fnFitsTurnedWrong)

/-- 'laws.FnSameShapes': WHATEVER THE INPUT: true; the input reads as it did. -/
def fnSameShapesSpec : ChangeSpec := { name := "fnSameShapes", fn := fun _ => fun
  | [d] => { results := [.lit (.bool true)], args := [d] }
  | _ => none }
def fnSameShapesRow : OpenClaim := { program := "ytbaekjnfijmakaagreatdoor", sum := "903ea3723f17a8f7666caec441452192725e01324f391e7917cb5366e194ea28", func := "loop.example/callbinding/laws.FnSameShapes", spec := "fnSameShapes", inPlace := ["internal/bytealg.IndexByteString", "internal/bytealg.IndexString"], unfollowed := true, recurses := true, named := ["unicode/utf8.first", "unicode/utf8.acceptRanges", "internal/bytealg.MaxLen"], apart := false, laid := [("unicode/utf8.acceptRanges", laid_unicode_utf8_acceptRanges), ("unicode/utf8.first", laid_unicode_utf8_first)] }
def FnSameShapesSaid : Prop := fnSameShapesRow.holds Tryz.pinned (OpenSpec.ofChange fnSameShapesSpec)

/-- ITS FALSE NEIGHBOUR: 'it returns false'. Refute it at one input. -/
def fnSameShapesWrong : ChangeSpec := { name := "fnSameShapes", fn := fun _ => fun
  | [d] => { results := [.lit (.bool false)], args := [d] }
  | _ => none }
def FnSameShapesWrongFalsely : Prop := fnSameShapesRow.holds Tryz.pinned (OpenSpec.ofChange fnSameShapesWrong)

/-- 'laws.FnExactFirstRefused': WHATEVER THE INPUT: true; the input reads as it did. -/
def fnExactFirstRefusedSpec : ChangeSpec := { name := "fnExactFirstRefused", fn := fun _ => fun
  | [d1, d2] => { results := [.lit (.bool true)], args := [d1, d2] }
  | _ => none }
def fnExactFirstRefusedRow : OpenClaim := { program := "ytbaekjnfijmakaagreatdoor", sum := "903ea3723f17a8f7666caec441452192725e01324f391e7917cb5366e194ea28", func := "loop.example/callbinding/laws.FnExactFirstRefused", spec := "fnExactFirstRefused", inPlace := ["internal/bytealg.IndexByteString", "internal/bytealg.IndexString"], unfollowed := true, recurses := true, named := ["unicode/utf8.first", "unicode/utf8.acceptRanges", "internal/bytealg.MaxLen"], apart := false, laid := [("unicode/utf8.acceptRanges", laid_unicode_utf8_acceptRanges), ("unicode/utf8.first", laid_unicode_utf8_first)] }
def FnExactFirstRefusedSaid : Prop := fnExactFirstRefusedRow.holds Tryz.pinned (OpenSpec.ofChange fnExactFirstRefusedSpec)

/-- ITS FALSE NEIGHBOUR: 'it returns false'. Refute it at one input. -/
def fnExactFirstRefusedWrong : ChangeSpec := { name := "fnExactFirstRefused", fn := fun _ => fun
  | [d1, d2] => { results := [.lit (.bool false)], args := [d1, d2] }
  | _ => none }
def FnExactFirstRefusedWrongFalsely : Prop := fnExactFirstRefusedRow.holds Tryz.pinned (OpenSpec.ofChange fnExactFirstRefusedWrong)

/-- 'laws.FnShadowOf': WHATEVER THE INPUT: true; the input reads as it did. -/
def fnShadowOfSpec : ChangeSpec := { name := "fnShadowOf", fn := fun _ => fun
  | [d] => { results := [.lit (.bool true)], args := [d] }
  | _ => none }
def fnShadowOfRow : OpenClaim := { program := "ytbaekjnfijmakaagreatdoor", sum := "903ea3723f17a8f7666caec441452192725e01324f391e7917cb5366e194ea28", func := "loop.example/callbinding/laws.FnShadowOf", spec := "fnShadowOf", inPlace := ["internal/bytealg.IndexByteString", "internal/bytealg.IndexString"], unfollowed := true, recurses := true, named := ["unicode/utf8.first", "unicode/utf8.acceptRanges", "internal/bytealg.MaxLen"], apart := false, laid := [("unicode/utf8.acceptRanges", laid_unicode_utf8_acceptRanges), ("unicode/utf8.first", laid_unicode_utf8_first)] }
def FnShadowOfSaid : Prop := fnShadowOfRow.holds Tryz.pinned (OpenSpec.ofChange fnShadowOfSpec)

/-- ITS FALSE NEIGHBOUR: 'it returns false'. Refute it at one input. -/
def fnShadowOfWrong : ChangeSpec := { name := "fnShadowOf", fn := fun _ => fun
  | [d] => { results := [.lit (.bool false)], args := [d] }
  | _ => none }
def FnShadowOfWrongFalsely : Prop := fnShadowOfRow.holds Tryz.pinned (OpenSpec.ofChange fnShadowOfWrong)

/- THE SECOND FORM. 'bulk': how many values and letters a reading holds, each counted each time it is reached (what is shared counts as often as it is met; a slice's spare places count too). A statement '..UptoSaid' is the law's where the arguments, and the package variables that the reading takes, are together of bulk at most 1048576: NARROWER than '..Said'. Prove '..Said' where nothing that the law and all that it calls make is longer than what came in: it says more and counts as full. Else prove '..UptoSaid'. A law counts once. -/
mutual
def uptoBulk {H : Type} : DataW H → Nat
  | .lit (.string bytes) => bytes.length + 1
  | .lit _ => 1
  | .nil => 1
  | .ptr d => uptoBulk d + 1
  | .slice elems spare => uptoBulkAll elems + uptoBulkAll spare + 1
  | .agg parts => uptoBulkAll parts + 1
  | .iface _ d => uptoBulk d + 1
  | .map entries => uptoBulkEntries entries + 1
  | .held _ => 1
def uptoBulkAll {H : Type} : List (DataW H) → Nat
  | [] => 0
  | d :: r => uptoBulk d + uptoBulkAll r
def uptoBulkEntries {H : Type} : List (Lit × DataW H) → Nat
  | [] => 0
  | x :: r => uptoBulkEntry x + uptoBulkEntries r
def uptoBulkEntry {H : Type} : Lit × DataW H → Nat
  | (.string bytes, d) => bytes.length + uptoBulk d + 1
  | (_, d) => uptoBulk d + 1
 end
def uptoSmall : (H : Type) → List (DataW H) → Bool := fun _ ds => decide (uptoBulkAll ds ≤ 1048576)
def OpenSpec.upto (s : _root_.Go.ChangeSpec) : _root_.Go.OpenSpec := { _root_.Go.OpenSpec.ofChange s with cond := some uptoSmall }

/-- 'laws.FnFitsCall', WHERE WHAT IT READS IS OF BULK AT MOST 1048576: true; the input reads as it did. -/
def fnFitsCallUptoRow : OpenClaim := { program := "ytbaekjnfijmakaagreatdoor", sum := "903ea3723f17a8f7666caec441452192725e01324f391e7917cb5366e194ea28", func := "loop.example/callbinding/laws.FnFitsCall", spec := "fnFitsCall", inPlace := ["internal/bytealg.IndexByteString", "internal/bytealg.IndexString"], unfollowed := true, recurses := true, named := ["unicode/utf8.first", "unicode/utf8.acceptRanges", "internal/bytealg.MaxLen"], apart := false, laid := [("unicode/utf8.acceptRanges", laid_unicode_utf8_acceptRanges), ("unicode/utf8.first", laid_unicode_utf8_first)], narrowed := true }
def FnFitsCallUptoSaid : Prop := fnFitsCallUptoRow.holds Tryz.pinned (OpenSpec.upto fnFitsCallSpec)

/-- 'laws.FnExactFits', WHERE WHAT IT READS IS OF BULK AT MOST 1048576: true; the input reads as it did. -/
def fnExactFitsUptoRow : OpenClaim := { program := "ytbaekjnfijmakaagreatdoor", sum := "903ea3723f17a8f7666caec441452192725e01324f391e7917cb5366e194ea28", func := "loop.example/callbinding/laws.FnExactFits", spec := "fnExactFits", inPlace := ["internal/bytealg.IndexByteString", "internal/bytealg.IndexString"], unfollowed := true, recurses := true, named := ["unicode/utf8.first", "unicode/utf8.acceptRanges", "internal/bytealg.MaxLen"], apart := false, laid := [("unicode/utf8.acceptRanges", laid_unicode_utf8_acceptRanges), ("unicode/utf8.first", laid_unicode_utf8_first)], narrowed := true }
def FnExactFitsUptoSaid : Prop := fnExactFitsUptoRow.holds Tryz.pinned (OpenSpec.upto fnExactFitsSpec)

/-- 'laws.FnExactSameShapes', WHERE WHAT IT READS IS OF BULK AT MOST 1048576: true; the input reads as it did. -/
def fnExactSameShapesUptoRow : OpenClaim := { program := "ytbaekjnfijmakaagreatdoor", sum := "903ea3723f17a8f7666caec441452192725e01324f391e7917cb5366e194ea28", func := "loop.example/callbinding/laws.FnExactSameShapes", spec := "fnExactSameShapes", inPlace := ["internal/bytealg.IndexByteString", "internal/bytealg.IndexString"], unfollowed := true, recurses := true, named := ["unicode/utf8.first", "unicode/utf8.acceptRanges", "internal/bytealg.MaxLen"], apart := false, laid := [("unicode/utf8.acceptRanges", laid_unicode_utf8_acceptRanges), ("unicode/utf8.first", laid_unicode_utf8_first)], narrowed := true }
def FnExactSameShapesUptoSaid : Prop := fnExactSameShapesUptoRow.holds Tryz.pinned (OpenSpec.upto fnExactSameShapesSpec)

/-- 'laws.FnFirstRefusedLeast', WHERE WHAT IT READS IS OF BULK AT MOST 1048576: true; the input reads as it did. -/
def fnFirstRefusedLeastUptoRow : OpenClaim := { program := "ytbaekjnfijmakaagreatdoor", sum := "903ea3723f17a8f7666caec441452192725e01324f391e7917cb5366e194ea28", func := "loop.example/callbinding/laws.FnFirstRefusedLeast", spec := "fnFirstRefusedLeast", inPlace := ["internal/bytealg.IndexByteString", "internal/bytealg.IndexString"], unfollowed := true, recurses := true, named := ["unicode/utf8.first", "unicode/utf8.acceptRanges", "internal/bytealg.MaxLen"], apart := false, laid := [("unicode/utf8.acceptRanges", laid_unicode_utf8_acceptRanges), ("unicode/utf8.first", laid_unicode_utf8_first)], narrowed := true }
def FnFirstRefusedLeastUptoSaid : Prop := fnFirstRefusedLeastUptoRow.holds Tryz.pinned (OpenSpec.upto fnFirstRefusedLeastSpec)

/-- 'laws.FnFirstRefused', WHERE WHAT IT READS IS OF BULK AT MOST 1048576: true; the input reads as it did. -/
def fnFirstRefusedUptoRow : OpenClaim := { program := "ytbaekjnfijmakaagreatdoor", sum := "903ea3723f17a8f7666caec441452192725e01324f391e7917cb5366e194ea28", func := "loop.example/callbinding/laws.FnFirstRefused", spec := "fnFirstRefused", inPlace := ["internal/bytealg.IndexByteString", "internal/bytealg.IndexString"], unfollowed := true, recurses := true, named := ["unicode/utf8.first", "unicode/utf8.acceptRanges", "internal/bytealg.MaxLen"], apart := false, laid := [("unicode/utf8.acceptRanges", laid_unicode_utf8_acceptRanges), ("unicode/utf8.first", laid_unicode_utf8_first)], narrowed := true }
def FnFirstRefusedUptoSaid : Prop := fnFirstRefusedUptoRow.holds Tryz.pinned (OpenSpec.upto fnFirstRefusedSpec)

/-- 'laws.FnFits', WHERE WHAT IT READS IS OF BULK AT MOST 1048576: true; the input reads as it did. -/
def fnFitsUptoRow : OpenClaim := { program := "ytbaekjnfijmakaagreatdoor", sum := "903ea3723f17a8f7666caec441452192725e01324f391e7917cb5366e194ea28", func := "loop.example/callbinding/laws.FnFits", spec := "fnFits", inPlace := ["internal/bytealg.IndexByteString", "internal/bytealg.IndexString"], unfollowed := true, recurses := true, named := ["unicode/utf8.first", "unicode/utf8.acceptRanges", "internal/bytealg.MaxLen"], apart := false, laid := [("unicode/utf8.acceptRanges", laid_unicode_utf8_acceptRanges), ("unicode/utf8.first", laid_unicode_utf8_first)], narrowed := true }
def FnFitsUptoSaid : Prop := fnFitsUptoRow.holds Tryz.pinned (OpenSpec.upto fnFitsSpec)

/-- 'laws.FnExactShadowOf', WHERE WHAT IT READS IS OF BULK AT MOST 1048576: true; the input reads as it did. -/
def fnExactShadowOfUptoRow : OpenClaim := { program := "ytbaekjnfijmakaagreatdoor", sum := "903ea3723f17a8f7666caec441452192725e01324f391e7917cb5366e194ea28", func := "loop.example/callbinding/laws.FnExactShadowOf", spec := "fnExactShadowOf", inPlace := ["internal/bytealg.IndexByteString", "internal/bytealg.IndexString"], unfollowed := true, recurses := true, named := ["unicode/utf8.first", "unicode/utf8.acceptRanges", "internal/bytealg.MaxLen"], apart := false, laid := [("unicode/utf8.acceptRanges", laid_unicode_utf8_acceptRanges), ("unicode/utf8.first", laid_unicode_utf8_first)], narrowed := true }
def FnExactShadowOfUptoSaid : Prop := fnExactShadowOfUptoRow.holds Tryz.pinned (OpenSpec.upto fnExactShadowOfSpec)

/-- 'laws.FnFitsTurned', WHERE WHAT IT READS IS OF BULK AT MOST 1048576: true; the input reads as it did. -/
def fnFitsTurnedUptoRow : OpenClaim := { program := "ytbaekjnfijmakaagreatdoor", sum := "903ea3723f17a8f7666caec441452192725e01324f391e7917cb5366e194ea28", func := "loop.example/callbinding/laws.FnFitsTurned", spec := "fnFitsTurned", inPlace := ["internal/bytealg.IndexByteString", "internal/bytealg.IndexString"], unfollowed := true, recurses := true, named := ["unicode/utf8.first", "unicode/utf8.acceptRanges", "internal/bytealg.MaxLen"], apart := false, laid := [("unicode/utf8.acceptRanges", laid_unicode_utf8_acceptRanges), ("unicode/utf8.first", laid_unicode_utf8_first)], narrowed := true }
def FnFitsTurnedUptoSaid : Prop := fnFitsTurnedUptoRow.holds Tryz.pinned (OpenSpec.upto fnFitsTurnedSpec)

/-- 'laws.FnSameShapes', WHERE WHAT IT READS IS OF BULK AT MOST 1048576: true; the input reads as it did. -/
def fnSameShapesUptoRow : OpenClaim := { program := "ytbaekjnfijmakaagreatdoor", sum := "903ea3723f17a8f7666caec441452192725e01324f391e7917cb5366e194ea28", func := "loop.example/callbinding/laws.FnSameShapes", spec := "fnSameShapes", inPlace := ["internal/bytealg.IndexByteString", "internal/bytealg.IndexString"], unfollowed := true, recurses := true, named := ["unicode/utf8.first", "unicode/utf8.acceptRanges", "internal/bytealg.MaxLen"], apart := false, laid := [("unicode/utf8.acceptRanges", laid_unicode_utf8_acceptRanges), ("unicode/utf8.first", laid_unicode_utf8_first)], narrowed := true }
def FnSameShapesUptoSaid : Prop := fnSameShapesUptoRow.holds Tryz.pinned (OpenSpec.upto fnSameShapesSpec)

/-- 'laws.FnExactFirstRefused', WHERE WHAT IT READS IS OF BULK AT MOST 1048576: true; the input reads as it did. -/
def fnExactFirstRefusedUptoRow : OpenClaim := { program := "ytbaekjnfijmakaagreatdoor", sum := "903ea3723f17a8f7666caec441452192725e01324f391e7917cb5366e194ea28", func := "loop.example/callbinding/laws.FnExactFirstRefused", spec := "fnExactFirstRefused", inPlace := ["internal/bytealg.IndexByteString", "internal/bytealg.IndexString"], unfollowed := true, recurses := true, named := ["unicode/utf8.first", "unicode/utf8.acceptRanges", "internal/bytealg.MaxLen"], apart := false, laid := [("unicode/utf8.acceptRanges", laid_unicode_utf8_acceptRanges), ("unicode/utf8.first", laid_unicode_utf8_first)], narrowed := true }
def FnExactFirstRefusedUptoSaid : Prop := fnExactFirstRefusedUptoRow.holds Tryz.pinned (OpenSpec.upto fnExactFirstRefusedSpec)

/-- 'laws.FnShadowOf', WHERE WHAT IT READS IS OF BULK AT MOST 1048576: true; the input reads as it did. -/
def fnShadowOfUptoRow : OpenClaim := { program := "ytbaekjnfijmakaagreatdoor", sum := "903ea3723f17a8f7666caec441452192725e01324f391e7917cb5366e194ea28", func := "loop.example/callbinding/laws.FnShadowOf", spec := "fnShadowOf", inPlace := ["internal/bytealg.IndexByteString", "internal/bytealg.IndexString"], unfollowed := true, recurses := true, named := ["unicode/utf8.first", "unicode/utf8.acceptRanges", "internal/bytealg.MaxLen"], apart := false, laid := [("unicode/utf8.acceptRanges", laid_unicode_utf8_acceptRanges), ("unicode/utf8.first", laid_unicode_utf8_first)], narrowed := true }
def FnShadowOfUptoSaid : Prop := fnShadowOfUptoRow.holds Tryz.pinned (OpenSpec.upto fnShadowOfSpec)

end Rows
end Go.Proofs.YtbaekjnfijmakaaGreatDoor
