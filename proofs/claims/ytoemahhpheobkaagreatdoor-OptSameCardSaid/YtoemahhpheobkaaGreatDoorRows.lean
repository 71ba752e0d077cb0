/-
  NARROWER THAN 'FOR EVERY INPUT', by the rows' own cells (each row's printed sentence says how): DirsLinks: loops, laid · OptSame: loops, laid.
  DERIVED. THE GIVEN ROWS OF THIS SEAT. 2 by the template 'for every input the law returns true; each argument reads behind the call as it read before'; 0 by the template 'total and deterministic' (their statements: YtoemahhpheobkaaGreatDoorTotals.lean).
  GIVEN WITH THE SEED: the statements are not yours to turn. If you find one false, say at which input.
  Laid BY PROGRAM, IN A SANDBOX (cutbox-rows.mjs): the forced cells as the released guide's own fill.sh prints them over the translation 0d2d6f430699430d… (all of the seat's roots in one cut). By AI agents, Wed Nov 11 2026. No macro, syntax, notation, axiom, sorry.
-/
import Derived.Test.YtoemahhpheobkaaGreatDoorChecked
import GoSem.PinnedTables
import GoSem.Claim
import GoSem.ClaimJoined
import GoSem.ClaimMapViews
import Derived.JoinedTies
import Derived.KernelRfl
namespace Go.Proofs.YtoemahhpheobkaaGreatDoor
/- THE CELL 'sum', in the pinned program and in every row, IS THE sha256 OF THE DUMP (.gsa) THAT YtoemahhpheobkaaGreatDoorProg.lean LOADS. Nothing in Lean hashes anything: it is a label: what it is worth is what the hold of that sum in a sandbox is worth. -/
noncomputable def Tryz.pinned : Pinned := { name := "ytoemahhpheobkaagreatdoor", sum := "0d2d6f430699430dd92afd33e2f1db5e5eb1b39b166cb12f104fc4ded2d11c19", checked := Tryz.checked }
namespace Rows
def none {H : Type} : Left H := { results := [], args := [] }

/- WHAT THE LISTED PACKAGE-LEVEL VARIABLES READ AS WHEN THE CALL BEGINS. Each datum BY PROGRAM (the guide's laid-datum.mjs) off the statement by which the dump's own 'gosem.cut.vars' lays the variable. In a bare row this is a premise. The card (YtoemahhpheobkaaGreatDoorCards.lean) ties it to the program's text. -/
def laid_unicode_utf8_acceptRanges {H : Type} : DataW H := .agg [.agg [.lit (.int .u8 128), .lit (.int .u8 191)], .agg [.lit (.int .u8 160), .lit (.int .u8 191)], .agg [.lit (.int .u8 128), .lit (.int .u8 159)], .agg [.lit (.int .u8 144), .lit (.int .u8 191)], .agg [.lit (.int .u8 128), .lit (.int .u8 143)], .agg [.lit (.int .u8 0), .lit (.int .u8 0)], .agg [.lit (.int .u8 0), .lit (.int .u8 0)], .agg [.lit (.int .u8 0), .lit (.int .u8 0)], .agg [.lit (.int .u8 0), .lit (.int .u8 0)], .agg [.lit (.int .u8 0), .lit (.int .u8 0)], .agg [.lit (.int .u8 0), .lit (.int .u8 0)], .agg [.lit (.int .u8 0), .lit (.int .u8 0)], .agg [.lit (.int .u8 0), .lit (.int .u8 0)], .agg [.lit (.int .u8 0), .lit (.int .u8 0)], .agg [.lit (.int .u8 0), .lit (.int .u8 0)], .agg [.lit (.int .u8 0), .lit (.int .u8 0)]]
def laid_stillroom_api_ErrText {H : Type} : DataW H := .iface "*errors.errorString" (.ptr (.agg [.lit (.string [115, 116, 105, 108, 108, 114, 111, 111, 109, 58, 32, 116, 101, 120, 116])]))
def laid_stillroom_api_ErrBound {H : Type} : DataW H := .iface "*errors.errorString" (.ptr (.agg [.lit (.string [115, 116, 105, 108, 108, 114, 111, 111, 109, 58, 32, 98, 111, 117, 110, 100])]))
def laid_stillroom_api_ErrShape {H : Type} : DataW H := .iface "*errors.errorString" (.ptr (.agg [.lit (.string [115, 116, 105, 108, 108, 114, 111, 111, 109, 58, 32, 115, 104, 97, 112, 101])]))
def laid_stillroom_api_ErrKind {H : Type} : DataW H := .iface "*errors.errorString" (.ptr (.agg [.lit (.string [115, 116, 105, 108, 108, 114, 111, 111, 109, 58, 32, 107, 105, 110, 100])]))
def laid_stillroom_api_ErrName {H : Type} : DataW H := .iface "*errors.errorString" (.ptr (.agg [.lit (.string [115, 116, 105, 108, 108, 114, 111, 111, 109, 58, 32, 110, 97, 109, 101])]))
def laid_stillroom_api_ErrNone {H : Type} : DataW H := .iface "*errors.errorString" (.ptr (.agg [.lit (.string [115, 116, 105, 108, 108, 114, 111, 111, 109, 58, 32, 110, 111, 110, 101])]))
def laid_stillroom_api_ErrFull {H : Type} : DataW H := .iface "*errors.errorString" (.ptr (.agg [.lit (.string [115, 116, 105, 108, 108, 114, 111, 111, 109, 58, 32, 102, 117, 108, 108])]))
def laid_stillroom_api_ErrDeep {H : Type} : DataW H := .iface "*errors.errorString" (.ptr (.agg [.lit (.string [115, 116, 105, 108, 108, 114, 111, 111, 109, 58, 32, 100, 101, 101, 112])]))
def laid_stillroom_api_ErrOrder {H : Type} : DataW H := .iface "*errors.errorString" (.ptr (.agg [.lit (.string [115, 116, 105, 108, 108, 114, 111, 111, 109, 58, 32, 111, 114, 100, 101, 114])]))
def laid_stillroom_api_ErrSum {H : Type} : DataW H := .iface "*errors.errorString" (.ptr (.agg [.lit (.string [115, 116, 105, 108, 108, 114, 111, 111, 109, 58, 32, 115, 117, 109])]))
/-- One of Go's own tables, pinned by name: the form's constant. -/
def laid_unicode_utf8_first : DataW Unit := Go.Pinned.utf8First

/-- 'stillroomlaw2.DirsLinks': WHATEVER THE INPUT: true; the input reads as it did. -/
def dirsLinksSpec : ChangeSpec := { name := "dirsLinks", fn := fun _ => fun
  | [d1, d2] => { results := [.lit (.bool true)], args := [d1, d2] }
  | _ => none }
def dirsLinksRow : OpenClaim := { program := "ytoemahhpheobkaagreatdoor", sum := "0d2d6f430699430dd92afd33e2f1db5e5eb1b39b166cb12f104fc4ded2d11c19", func := "stillroom/stillroomlaw2.DirsLinks", spec := "dirsLinks", inPlace := ["internal/abi.NoEscape", "internal/bytealg.MakeNoZero", "internal/bytealg.IndexByteString", "internal/bytealg.IndexString", "internal/bytealg.CountString", "internal/bytealg.abigen_runtime_cmpstring"], unfollowed := true, recurses := true, named := ["stillroom/api.ErrBound", "stillroom/api.ErrShape", "stillroom/api.ErrFull", "stillroom/api.ErrDeep", "stillroom/api.ErrKind", "stillroom/api.ErrText", "stillroom/api.ErrName", "stillroom/api.ErrOrder", "unicode/utf8.first", "unicode/utf8.acceptRanges", "stillroom/api.ErrNone", "internal/bytealg.MaxLen", "stillroom/api.ErrSum"], loops := true, plainKeys := false, apart := false, laid := [("unicode/utf8.acceptRanges", laid_unicode_utf8_acceptRanges), ("stillroom/api.ErrText", laid_stillroom_api_ErrText), ("stillroom/api.ErrBound", laid_stillroom_api_ErrBound), ("stillroom/api.ErrShape", laid_stillroom_api_ErrShape), ("stillroom/api.ErrKind", laid_stillroom_api_ErrKind), ("stillroom/api.ErrName", laid_stillroom_api_ErrName), ("stillroom/api.ErrNone", laid_stillroom_api_ErrNone), ("stillroom/api.ErrFull", laid_stillroom_api_ErrFull), ("stillroom/api.ErrDeep", laid_stillroom_api_ErrDeep), ("stillroom/api.ErrOrder", laid_stillroom_api_ErrOrder), ("stillroom/api.ErrSum", laid_stillroom_api_ErrSum), ("unicode/utf8.first", laid_unicode_utf8_first)] }
def DirsLinksSaid : Prop := dirsLinksRow.holds Tryz.pinned (OpenSpec.ofChange dirsLinksSpec)

/-- ITS FALSE NEIGHBOUR: 'it returns false'. Refute it at one input. -/
def dirsLinksWrong : ChangeSpec := { name := "dirsLinks", fn := fun _ => fun
  | [d1, d2] => { results := [.lit (.bool false)], args := [d1, d2] }
  | _ => none }
def DirsLinksWrongFalsely : Prop := dirsLinksRow.holds Tryz.pinned (OpenSpec.ofChange dirsLinksWrong)

/-- 'stillroomlaw2.OptSame': WHATEVER THE INPUT: true; the input reads as it did. -/
def optSameSpec : ChangeSpec := { name := "optSame", fn := fun _ => fun
  | [d1, d2] => { results := [.lit (.bool true)], args := [d1, d2] }
  | _ => none }
def optSameRow : OpenClaim := { program := "ytoemahhpheobkaagreatdoor", sum := "0d2d6f430699430dd92afd33e2f1db5e5eb1b39b166cb12f104fc4ded2d11c19", func := "stillroom/stillroomlaw2.OptSame", spec := "optSame", inPlace := ["internal/abi.NoEscape", "internal/bytealg.MakeNoZero", "internal/bytealg.IndexByteString", "internal/bytealg.IndexString", "internal/bytealg.CountString", "internal/bytealg.abigen_runtime_cmpstring"], unfollowed := true, recurses := true, named := ["stillroom/api.ErrBound", "stillroom/api.ErrShape", "stillroom/api.ErrFull", "stillroom/api.ErrDeep", "stillroom/api.ErrKind", "stillroom/api.ErrText", "stillroom/api.ErrName", "stillroom/api.ErrOrder", "unicode/utf8.first", "unicode/utf8.acceptRanges", "stillroom/api.ErrNone", "internal/bytealg.MaxLen", "stillroom/api.ErrSum"], loops := true, plainKeys := false, apart := false, laid := [("unicode/utf8.acceptRanges", laid_unicode_utf8_acceptRanges), ("stillroom/api.ErrText", laid_stillroom_api_ErrText), ("stillroom/api.ErrBound", laid_stillroom_api_ErrBound), ("stillroom/api.ErrShape", laid_stillroom_api_ErrShape), ("stillroom/api.ErrKind", laid_stillroom_api_ErrKind), ("stillroom/api.ErrName", laid_stillroom_api_ErrName), ("stillroom/api.ErrNone", laid_stillroom_api_ErrNone), ("stillroom/api.ErrFull", laid_stillroom_api_ErrFull), ("stillroom/api.ErrDeep", laid_stillroom_api_ErrDeep), ("stillroom/api.ErrOrder", laid_stillroom_api_ErrOrder), ("stillroom/api.ErrSum", laid_stillroom_api_ErrSum), ("unicode/utf8.first", laid_unicode_utf8_first)] }
def OptSameSaid : Prop := optSameRow.holds Tryz.pinned (OpenSpec.ofChange optSameSpec)

/-- ITS FALSE NEIGHBOUR: 'it returns false'. Refute it at one input. -/
def optSameWrong : ChangeSpec := { name := "optSame", fn := fun _ => fun
  | [d1, d2] => { results := [.lit (.bool false)], args := [d1, d2] }
  | _ => none }
def OptSameWrongFalsely : Prop := optSameRow.holds Tryz.pinned (OpenSpec.ofChange optSameWrong)

/- THE SECOND FORM. 'bulk': how many values and letters a reading holds, each counted each time it is reached (what is shared counts as often as it is met; a slice's spare places count too). A statement '..UptoSaid' is the law's where the arguments, and the package variables that the reading takes, are together of bulk at most 1048576: NARROWER than '..Said'. Prove '..Said' where nothing that the law and all that it calls make is longer than what came in: it says more and counts as full. Else prove '..UptoSaid'. A law counts once. -/
mutual
def uptoBulk {H : Type} : DataW H → Nat
  | .lit (.string bytes) => bytes.length + 1
  | .lit _ => 1
  | .nil => 1
  | .ptr d => uptoBulk d + 1
  | .slice elems spare => uptoBulkAll elems + uptoBulkAll spare + 1
  | .agg parts => uptoBulkAll parts + 1
  | .iface _ d => uptoBulk d + 1
  | .map entries => uptoBulkEntries entries + 1
  | .held _ => 1
def uptoBulkAll {H : Type} : List (DataW H) → Nat
  | [] => 0
  | d :: r => uptoBulk d + uptoBulkAll r
def uptoBulkEntries {H : Type} : List (Lit × DataW H) → Nat
  | [] => 0
  | x :: r => uptoBulkEntry x + uptoBulkEntries r
def uptoBulkEntry {H : Type} : Lit × DataW H → Nat
  | (.string bytes, d) => bytes.length + uptoBulk d + 1
  | (_, d) => uptoBulk d + 1
 end
def uptoSmall : (H : Type) → List (DataW H) → Bool := fun _ ds => decide (uptoBulkAll ds ≤ 1048576)
def OpenSpec.upto (s : _root_.Go.ChangeSpec) : _root_.Go.OpenSpec := { _root_.Go.OpenSpec.ofChange s with cond := some uptoSmall }

/-- 'stillroomlaw2.DirsLinks', WHERE WHAT IT READS IS OF BULK AT MOST 1048576: true; the input reads as it did. -/
def dirsLinksUptoRow : OpenClaim := { program := "ytoemahhpheobkaagreatdoor", sum := "0d2d6f430699430dd92afd33e2f1db5e5eb1b39b166cb12f104fc4ded2d11c19", func := "stillroom/stillroomlaw2.DirsLinks", spec := "dirsLinks", inPlace := ["internal/abi.NoEscape", "internal/bytealg.MakeNoZero", "internal/bytealg.IndexByteString", "internal/bytealg.IndexString", "internal/bytealg.CountString", "internal/bytealg.abigen_runtime_cmpstring"], unfollowed := true, recurses := true, named := ["stillroom/api.ErrBound", "stillroom/api.ErrShape", "stillroom/api.ErrFull", "stillroom/api.ErrDeep", "stillroom/api.ErrKind", "stillroom/api.ErrText", "stillroom/api.ErrName", "stillroom/api.ErrOrder", "unicode/utf8.first", "unicode/utf8.acceptRanges", "stillroom/api.ErrNone", "internal/bytealg.MaxLen", "stillroom/api.ErrSum"], loops := true, plainKeys := false, apart := false, laid := [("unicode/utf8.acceptRanges", laid_unicode_utf8_acceptRanges), ("stillroom/api.ErrText", laid_stillroom_api_ErrText), ("stillroom/api.ErrBound", laid_stillroom_api_ErrBound), ("stillroom/api.ErrShape", laid_stillroom_api_ErrShape), ("stillroom/api.ErrKind", laid_stillroom_api_ErrKind), ("stillroom/api.ErrName", laid_stillroom_api_ErrName), ("stillroom/api.ErrNone", laid_stillroom_api_ErrNone), ("stillroom/api.ErrFull", laid_stillroom_api_ErrFull), ("stillroom/api.ErrDeep", laid_stillroom_api_ErrDeep), ("stillroom/api.ErrOrder", laid_stillroom_api_ErrOrder), ("stillroom/api.ErrSum", laid_stillroom_api_ErrSum), ("unicode/utf8.first", laid_unicode_utf8_first)], narrowed := true }
def DirsLinksUptoSaid : Prop := dirsLinksUptoRow.holds Tryz.pinned (OpenSpec.upto dirsLinksSpec)

/-- 'stillroomlaw2.OptSame', WHERE WHAT IT READS IS OF BULK AT MOST 1048576: true; the input reads as it did. -/
def optSameUptoRow : OpenClaim := { program := "ytoemahhpheobkaagreatdoor", sum := "0d2d6f430699430dd92afd33e2f1db5e5eb1b39b166cb12f104fc4ded2d11c19", func := "stillroom/stillroomlaw2.OptSame", spec := "optSame", inPlace := ["internal/abi.NoEscape", "internal/bytealg.MakeNoZero", "internal/bytealg.IndexByteString", "internal/bytealg.IndexString", "internal/bytealg.CountString", "internal/bytealg.abigen_runtime_cmpstring"], unfollowed := true, recurses := true, named := ["stillroom/api.ErrBound", "stillroom/api.ErrShape", "stillroom/api.ErrFull", "stillroom/api.ErrDeep", "stillroom/api.ErrKind", "stillroom/api.ErrText", "stillroom/api.ErrName", "stillroom/api.ErrOrder", "unicode/utf8.first", "unicode/utf8.acceptRanges", "stillroom/api.ErrNone", "internal/bytealg.MaxLen", "stillroom/api.ErrSum"], loops := true, plainKeys := false, apart := false, laid := [("unicode/utf8.acceptRanges", laid_unicode_utf8_acceptRanges), ("stillroom/api.ErrText", laid_stillroom_api_ErrText), ("stillroom/api.ErrBound", laid_stillroom_api_ErrBound), ("stillroom/api.ErrShape", laid_stillroom_api_ErrShape), ("stillroom/api.ErrKind", laid_stillroom_api_ErrKind), ("stillroom/api.ErrName", laid_stillroom_api_ErrName), ("stillroom/api.ErrNone", laid_stillroom_api_ErrNone), ("stillroom/api.ErrFull", laid_stillroom_api_ErrFull), ("stillroom/api.ErrDeep", laid_stillroom_api_ErrDeep), ("stillroom/api.ErrOrder", laid_stillroom_api_ErrOrder), ("stillroom/api.ErrSum", laid_stillroom_api_ErrSum), ("unicode/utf8.first", laid_unicode_utf8_first)], narrowed := true }
def OptSameUptoSaid : Prop := optSameUptoRow.holds Tryz.pinned (OpenSpec.upto optSameSpec)

end Rows
end Go.Proofs.YtoemahhpheobkaaGreatDoor
