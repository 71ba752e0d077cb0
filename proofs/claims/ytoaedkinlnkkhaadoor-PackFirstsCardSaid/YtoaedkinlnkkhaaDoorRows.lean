/-
  NARROWER THAN 'FOR EVERY INPUT', by the rows' own cells (each row's printed sentence says how): DiffBack: loops, laid · PackBack: loops, laid · PackFirsts: loops, laid.
  DERIVED. THE GIVEN ROWS OF THIS SEAT. 3 by the template 'for every input the law returns true; each argument reads behind the call as it read before'; 0 by the template 'total and deterministic' (their statements: YtoaedkinlnkkhaaDoorTotals.lean).
  GIVEN WITH THE SEED: the statements are not yours to turn. If you find one false, say at which input.
  Laid BY PROGRAM, IN A SANDBOX (cutbox-rows.mjs): the forced cells as the released guide's own fill.sh prints them over the translation e3234efd7ecb22fe… (all of the seat's roots in one cut). By AI agents, Wed Nov 11 2026. No macro, syntax, notation, axiom, sorry.
-/
import Derived.Test.YtoaedkinlnkkhaaDoorChecked
import GoSem.PinnedTables
import GoSem.Claim
import GoSem.ClaimJoined
import GoSem.ClaimMapViews
import Derived.JoinedTies
import Derived.KernelRfl
namespace Go.Proofs.YtoaedkinlnkkhaaDoor
/- THE CELL 'sum', in the pinned program and in every row, IS THE sha256 OF THE DUMP (.gsa) THAT YtoaedkinlnkkhaaDoorProg.lean LOADS. Nothing in Lean hashes anything: it is a label: what it is worth is what the hold of that sum in a sandbox is worth. -/
noncomputable def Tryd.pinned : Pinned := { name := "ytoaedkinlnkkhaadoor", sum := "e3234efd7ecb22fec445625531887116e07ce1c86248ec5b702437243fae97b9", checked := Tryd.checked }
namespace Rows
def none {H : Type} : Left H := { results := [], args := [] }

/- WHAT THE LISTED PACKAGE-LEVEL VARIABLES READ AS WHEN THE CALL BEGINS. Each datum BY PROGRAM (the guide's laid-datum.mjs) off the statement by which the dump's own 'gosem.cut.vars' lays the variable. In a bare row this is a premise. The card (YtoaedkinlnkkhaaDoorCards.lean) ties it to the program's text. -/
def laid_unicode_utf8_acceptRanges {H : Type} : DataW H := .agg [.agg [.lit (.int .u8 128), .lit (.int .u8 191)], .agg [.lit (.int .u8 160), .lit (.int .u8 191)], .agg [.lit (.int .u8 128), .lit (.int .u8 159)], .agg [.lit (.int .u8 144), .lit (.int .u8 191)], .agg [.lit (.int .u8 128), .lit (.int .u8 143)], .agg [.lit (.int .u8 0), .lit (.int .u8 0)], .agg [.lit (.int .u8 0), .lit (.int .u8 0)], .agg [.lit (.int .u8 0), .lit (.int .u8 0)], .agg [.lit (.int .u8 0), .lit (.int .u8 0)], .agg [.lit (.int .u8 0), .lit (.int .u8 0)], .agg [.lit (.int .u8 0), .lit (.int .u8 0)], .agg [.lit (.int .u8 0), .lit (.int .u8 0)], .agg [.lit (.int .u8 0), .lit (.int .u8 0)], .agg [.lit (.int .u8 0), .lit (.int .u8 0)], .agg [.lit (.int .u8 0), .lit (.int .u8 0)], .agg [.lit (.int .u8 0), .lit (.int .u8 0)]]
def laid_stillroom_api_ErrText {H : Type} : DataW H := .iface "*errors.errorString" (.ptr (.agg [.lit (.string [115, 116, 105, 108, 108, 114, 111, 111, 109, 58, 32, 116, 101, 120, 116])]))
def laid_stillroom_api_ErrBound {H : Type} : DataW H := .iface "*errors.errorString" (.ptr (.agg [.lit (.string [115, 116, 105, 108, 108, 114, 111, 111, 109, 58, 32, 98, 111, 117, 110, 100])]))
def laid_stillroom_api_ErrShape {H : Type} : DataW H := .iface "*errors.errorString" (.ptr (.agg [.lit (.string [115, 116, 105, 108, 108, 114, 111, 111, 109, 58, 32, 115, 104, 97, 112, 101])]))
def laid_stillroom_api_ErrKind {H : Type} : DataW H := .iface "*errors.errorString" (.ptr (.agg [.lit (.string [115, 116, 105, 108, 108, 114, 111, 111, 109, 58, 32, 107, 105, 110, 100])]))
def laid_stillroom_api_ErrName {H : Type} : DataW H := .iface "*errors.errorString" (.ptr (.agg [.lit (.string [115, 116, 105, 108, 108, 114, 111, 111, 109, 58, 32, 110, 97, 109, 101])]))
def laid_stillroom_api_ErrNone {H : Type} : DataW H := .iface "*errors.errorString" (.ptr (.agg [.lit (.string [115, 116, 105, 108, 108, 114, 111, 111, 109, 58, 32, 110, 111, 110, 101])]))
def laid_stillroom_api_ErrExist {H : Type} : DataW H := .iface "*errors.errorString" (.ptr (.agg [.lit (.string [115, 116, 105, 108, 108, 114, 111, 111, 109, 58, 32, 101, 120, 105, 115, 116])]))
def laid_stillroom_api_ErrFull {H : Type} : DataW H := .iface "*errors.errorString" (.ptr (.agg [.lit (.string [115, 116, 105, 108, 108, 114, 111, 111, 109, 58, 32, 102, 117, 108, 108])]))
def laid_stillroom_api_ErrDeep {H : Type} : DataW H := .iface "*errors.errorString" (.ptr (.agg [.lit (.string [115, 116, 105, 108, 108, 114, 111, 111, 109, 58, 32, 100, 101, 101, 112])]))
def laid_stillroom_api_ErrOrder {H : Type} : DataW H := .iface "*errors.errorString" (.ptr (.agg [.lit (.string [115, 116, 105, 108, 108, 114, 111, 111, 109, 58, 32, 111, 114, 100, 101, 114])]))
/-- One of Go's own tables, pinned by name: the form's constant. -/
def laid_unicode_utf8_first : DataW Unit := Go.Pinned.utf8First
def laid_math_bits_deBruijn32tab {H : Type} : DataW H := .agg [.lit (.int .u8 0), .lit (.int .u8 1), .lit (.int .u8 28), .lit (.int .u8 2), .lit (.int .u8 29), .lit (.int .u8 14), .lit (.int .u8 24), .lit (.int .u8 3), .lit (.int .u8 30), .lit (.int .u8 22), .lit (.int .u8 20), .lit (.int .u8 15), .lit (.int .u8 25), .lit (.int .u8 17), .lit (.int .u8 4), .lit (.int .u8 8), .lit (.int .u8 31), .lit (.int .u8 27), .lit (.int .u8 13), .lit (.int .u8 23), .lit (.int .u8 21), .lit (.int .u8 19), .lit (.int .u8 16), .lit (.int .u8 7), .lit (.int .u8 26), .lit (.int .u8 12), .lit (.int .u8 18), .lit (.int .u8 6), .lit (.int .u8 11), .lit (.int .u8 5), .lit (.int .u8 10), .lit (.int .u8 9)]
def laid_math_bits_deBruijn64tab {H : Type} : DataW H := .agg [.lit (.int .u8 0), .lit (.int .u8 1), .lit (.int .u8 56), .lit (.int .u8 2), .lit (.int .u8 57), .lit (.int .u8 49), .lit (.int .u8 28), .lit (.int .u8 3), .lit (.int .u8 61), .lit (.int .u8 58), .lit (.int .u8 42), .lit (.int .u8 50), .lit (.int .u8 38), .lit (.int .u8 29), .lit (.int .u8 17), .lit (.int .u8 4), .lit (.int .u8 62), .lit (.int .u8 47), .lit (.int .u8 59), .lit (.int .u8 36), .lit (.int .u8 45), .lit (.int .u8 43), .lit (.int .u8 51), .lit (.int .u8 22), .lit (.int .u8 53), .lit (.int .u8 39), .lit (.int .u8 33), .lit (.int .u8 30), .lit (.int .u8 24), .lit (.int .u8 18), .lit (.int .u8 12), .lit (.int .u8 5), .lit (.int .u8 63), .lit (.int .u8 55), .lit (.int .u8 48), .lit (.int .u8 27), .lit (.int .u8 60), .lit (.int .u8 41), .lit (.int .u8 37), .lit (.int .u8 16), .lit (.int .u8 46), .lit (.int .u8 35), .lit (.int .u8 44), .lit (.int .u8 21), .lit (.int .u8 52), .lit (.int .u8 32), .lit (.int .u8 23), .lit (.int .u8 11), .lit (.int .u8 54), .lit (.int .u8 26), .lit (.int .u8 40), .lit (.int .u8 15), .lit (.int .u8 34), .lit (.int .u8 20), .lit (.int .u8 31), .lit (.int .u8 10), .lit (.int .u8 25), .lit (.int .u8 14), .lit (.int .u8 19), .lit (.int .u8 9), .lit (.int .u8 13), .lit (.int .u8 8), .lit (.int .u8 7), .lit (.int .u8 6)]
def laid_internal_strconv_uint64pow10 {H : Type} : DataW H := .agg [.lit (.int .u64 1), .lit (.int .u64 10), .lit (.int .u64 100), .lit (.int .u64 1000), .lit (.int .u64 10000), .lit (.int .u64 100000), .lit (.int .u64 1000000), .lit (.int .u64 10000000), .lit (.int .u64 100000000), .lit (.int .u64 1000000000), .lit (.int .u64 10000000000), .lit (.int .u64 100000000000), .lit (.int .u64 1000000000000), .lit (.int .u64 10000000000000), .lit (.int .u64 100000000000000), .lit (.int .u64 1000000000000000), .lit (.int .u64 10000000000000000), .lit (.int .u64 100000000000000000), .lit (.int .u64 1000000000000000000), .lit (.int .u64 10000000000000000000)]
def laid_strconv_ErrRange {H : Type} : DataW H := .iface "*errors.errorString" (.ptr (.agg [.lit (.string [118, 97, 108, 117, 101, 32, 111, 117, 116, 32, 111, 102, 32, 114, 97, 110, 103, 101])]))
def laid_strconv_ErrSyntax {H : Type} : DataW H := .iface "*errors.errorString" (.ptr (.agg [.lit (.string [105, 110, 118, 97, 108, 105, 100, 32, 115, 121, 110, 116, 97, 120])]))

/-- 'stillroomlaw1.DiffBack': WHATEVER THE INPUT: true; the input reads as it did. -/
def diffBackSpec : ChangeSpec := { name := "diffBack", fn := fun _ => fun
  | [d1, d2] => { results := [.lit (.bool true)], args := [d1, d2] }
  | _ => none }
def diffBackRow : OpenClaim := { program := "ytoaedkinlnkkhaadoor", sum := "e3234efd7ecb22fec445625531887116e07ce1c86248ec5b702437243fae97b9", func := "stillroom/stillroomlaw1.DiffBack", spec := "diffBack", inPlace := ["internal/bytealg.IndexByteString", "internal/bytealg.IndexString", "internal/bytealg.abigen_runtime_cmpstring", "internal/bytealg.CountString", "slices.overlaps[stillroom/api.Kid]"], unfollowed := true, recurses := true, named := ["stillroom/api.ErrDeep", "stillroom/api.ErrFull", "stillroom/api.ErrKind", "stillroom/api.ErrShape", "stillroom/api.ErrBound", "stillroom/api.ErrText", "stillroom/api.ErrName", "stillroom/api.ErrOrder", "unicode/utf8.first", "unicode/utf8.acceptRanges", "stillroom/api.ErrExist", "stillroom/api.ErrNone", "internal/bytealg.MaxLen"], loops := true, apart := false, laid := [("unicode/utf8.acceptRanges", laid_unicode_utf8_acceptRanges), ("stillroom/api.ErrText", laid_stillroom_api_ErrText), ("stillroom/api.ErrBound", laid_stillroom_api_ErrBound), ("stillroom/api.ErrShape", laid_stillroom_api_ErrShape), ("stillroom/api.ErrKind", laid_stillroom_api_ErrKind), ("stillroom/api.ErrName", laid_stillroom_api_ErrName), ("stillroom/api.ErrNone", laid_stillroom_api_ErrNone), ("stillroom/api.ErrExist", laid_stillroom_api_ErrExist), ("stillroom/api.ErrFull", laid_stillroom_api_ErrFull), ("stillroom/api.ErrDeep", laid_stillroom_api_ErrDeep), ("stillroom/api.ErrOrder", laid_stillroom_api_ErrOrder), ("unicode/utf8.first", laid_unicode_utf8_first)] }
def DiffBackSaid : Prop := diffBackRow.holds Tryd.pinned (OpenSpec.ofChange diffBackSpec)

/-- ITS FALSE NEIGHBOUR: 'it returns false'. Refute it at one input. -/
def diffBackWrong : ChangeSpec := { name := "diffBack", fn := fun _ => fun
  | [d1, d2] => { results := [.lit (.bool false)], args := [d1, d2] }
  | _ => none }
def DiffBackWrongFalsely : Prop := diffBackRow.holds Tryd.pinned (OpenSpec.ofChange diffBackWrong)

/-- 'stillroomlaw1.PackBack': WHATEVER THE INPUT: true; the input reads as it did. -/
def packBackSpec : ChangeSpec := { name := "packBack", fn := fun _ => fun
  | [d1, d2, d3] => { results := [.lit (.bool true)], args := [d1, d2, d3] }
  | _ => none }
def packBackRow : OpenClaim := { program := "ytoaedkinlnkkhaadoor", sum := "e3234efd7ecb22fec445625531887116e07ce1c86248ec5b702437243fae97b9", func := "stillroom/stillroomlaw1.PackBack", spec := "packBack", inPlace := ["internal/bytealg.IndexByteString", "internal/bytealg.IndexString", "internal/abi.NoEscape"], unfollowed := true, recurses := true, named := ["stillroom/api.ErrBound", "stillroom/api.ErrText", "stillroom/api.ErrDeep", "stillroom/api.ErrFull", "internal/bytealg.MaxLen", "strconv.ErrSyntax", "strconv.ErrRange", "internal/strconv.uint64pow10", "math/bits.deBruijn32tab", "math/bits.deBruijn64tab", "stillroom/api.ErrKind", "stillroom/api.ErrShape", "stillroom/api.ErrName", "stillroom/api.ErrOrder", "unicode/utf8.first", "unicode/utf8.acceptRanges"], loops := true, apart := false, laid := [("math/bits.deBruijn32tab", laid_math_bits_deBruijn32tab), ("math/bits.deBruijn64tab", laid_math_bits_deBruijn64tab), ("internal/strconv.uint64pow10", laid_internal_strconv_uint64pow10), ("unicode/utf8.acceptRanges", laid_unicode_utf8_acceptRanges), ("stillroom/api.ErrText", laid_stillroom_api_ErrText), ("stillroom/api.ErrBound", laid_stillroom_api_ErrBound), ("stillroom/api.ErrShape", laid_stillroom_api_ErrShape), ("stillroom/api.ErrKind", laid_stillroom_api_ErrKind), ("stillroom/api.ErrName", laid_stillroom_api_ErrName), ("stillroom/api.ErrFull", laid_stillroom_api_ErrFull), ("stillroom/api.ErrDeep", laid_stillroom_api_ErrDeep), ("stillroom/api.ErrOrder", laid_stillroom_api_ErrOrder), ("strconv.ErrRange", laid_strconv_ErrRange), ("strconv.ErrSyntax", laid_strconv_ErrSyntax), ("unicode/utf8.first", laid_unicode_utf8_first)] }
def PackBackSaid : Prop := packBackRow.holds Tryd.pinned (OpenSpec.ofChange packBackSpec)

/-- ITS FALSE NEIGHBOUR: 'it returns false'. Refute it at one input. -/
def packBackWrong : ChangeSpec := { name := "packBack", fn := fun _ => fun
  | [d1, d2, d3] => { results := [.lit (.bool false)], args := [d1, d2, d3] }
  | _ => none }
def PackBackWrongFalsely : Prop := packBackRow.holds Tryd.pinned (OpenSpec.ofChange packBackWrong)

/-- 'stillroomlaw1.PackFirsts': WHATEVER THE INPUT: true; the input reads as it did. -/
def packFirstsSpec : ChangeSpec := { name := "packFirsts", fn := fun _ => fun
  | [d] => { results := [.lit (.bool true)], args := [d] }
  | _ => none }
def packFirstsRow : OpenClaim := { program := "ytoaedkinlnkkhaadoor", sum := "e3234efd7ecb22fec445625531887116e07ce1c86248ec5b702437243fae97b9", func := "stillroom/stillroomlaw1.PackFirsts", spec := "packFirsts", inPlace := ["internal/bytealg.IndexByteString", "internal/bytealg.IndexString", "internal/abi.NoEscape"], unfollowed := true, recurses := true, named := ["stillroom/api.ErrBound", "stillroom/api.ErrText", "stillroom/api.ErrDeep", "stillroom/api.ErrFull", "internal/bytealg.MaxLen", "strconv.ErrSyntax", "strconv.ErrRange", "internal/strconv.uint64pow10", "math/bits.deBruijn32tab", "math/bits.deBruijn64tab", "stillroom/api.ErrKind", "stillroom/api.ErrShape", "stillroom/api.ErrName", "stillroom/api.ErrOrder", "unicode/utf8.first", "unicode/utf8.acceptRanges"], loops := true, apart := false, laid := [("math/bits.deBruijn32tab", laid_math_bits_deBruijn32tab), ("math/bits.deBruijn64tab", laid_math_bits_deBruijn64tab), ("internal/strconv.uint64pow10", laid_internal_strconv_uint64pow10), ("unicode/utf8.acceptRanges", laid_unicode_utf8_acceptRanges), ("stillroom/api.ErrText", laid_stillroom_api_ErrText), ("stillroom/api.ErrBound", laid_stillroom_api_ErrBound), ("stillroom/api.ErrShape", laid_stillroom_api_ErrShape), ("stillroom/api.ErrKind", laid_stillroom_api_ErrKind), ("stillroom/api.ErrName", laid_stillroom_api_ErrName), ("stillroom/api.ErrFull", laid_stillroom_api_ErrFull), ("stillroom/api.ErrDeep", laid_stillroom_api_ErrDeep), ("stillroom/api.ErrOrder", laid_stillroom_api_ErrOrder), ("strconv.ErrRange", laid_strconv_ErrRange), ("strconv.ErrSyntax", laid_strconv_ErrSyntax), ("unicode/utf8.first", laid_unicode_utf8_first)] }
def PackFirstsSaid : Prop := packFirstsRow.holds Tryd.pinned (OpenSpec.ofChange packFirstsSpec)

/-- ITS FALSE NEIGHBOUR: 'it returns false'. Refute it at one input. -/
def packFirstsWrong : ChangeSpec := { name := "packFirsts", fn := fun _ => fun
  | [d] => { results := [.lit (.bool false)], args := [d] }
  | _ => none }
def PackFirstsWrongFalsely : Prop := packFirstsRow.holds Tryd.pinned (OpenSpec.ofChange packFirstsWrong)

/- THE SECOND FORM. 'bulk': how many values and letters a reading holds, each counted each time it is reached (what is shared counts as often as it is met; a slice's spare places count too). A statement '..UptoSaid' is the law's where the arguments, and the package variables that the reading takes, are together of bulk at most 1048576: NARROWER than '..Said'. Prove '..Said' where nothing that the law and all that it calls make is longer than what came in: it says more and counts as full. Else prove '..UptoSaid'. A law counts once. -/
mutual
def uptoBulk {H : Type} : DataW H → Nat
  | .lit (.string bytes) => bytes.length + 1
  | .lit _ => 1
  | .nil => 1
  | .ptr d => uptoBulk d + 1
  | .slice elems spare => uptoBulkAll elems + uptoBulkAll spare + 1
  | .agg parts => uptoBulkAll parts + 1
  | .iface _ d => uptoBulk d + 1
  | .map entries => uptoBulkEntries entries + 1
  | .held _ => 1
def uptoBulkAll {H : Type} : List (DataW H) → Nat
  | [] => 0
  | d :: r => uptoBulk d + uptoBulkAll r
def uptoBulkEntries {H : Type} : List (Lit × DataW H) → Nat
  | [] => 0
  | x :: r => uptoBulkEntry x + uptoBulkEntries r
def uptoBulkEntry {H : Type} : Lit × DataW H → Nat
  | (.string bytes, d) => bytes.length + uptoBulk d + 1
  | (_, d) => uptoBulk d + 1
 end
def uptoSmall : (H : Type) → List (DataW H) → Bool := fun _ ds => decide (uptoBulkAll ds ≤ 1048576)
def OpenSpec.upto (s : _root_.Go.ChangeSpec) : _root_.Go.OpenSpec := { _root_.Go.OpenSpec.ofChange s with cond := some uptoSmall }

/-- 'stillroomlaw1.DiffBack', WHERE WHAT IT READS IS OF BULK AT MOST 1048576: true; the input reads as it did. -/
def diffBackUptoRow : OpenClaim := { program := "ytoaedkinlnkkhaadoor", sum := "e3234efd7ecb22fec445625531887116e07ce1c86248ec5b702437243fae97b9", func := "stillroom/stillroomlaw1.DiffBack", spec := "diffBack", inPlace := ["internal/bytealg.IndexByteString", "internal/bytealg.IndexString", "internal/bytealg.abigen_runtime_cmpstring", "internal/bytealg.CountString", "slices.overlaps[stillroom/api.Kid]"], unfollowed := true, recurses := true, named := ["stillroom/api.ErrDeep", "stillroom/api.ErrFull", "stillroom/api.ErrKind", "stillroom/api.ErrShape", "stillroom/api.ErrBound", "stillroom/api.ErrText", "stillroom/api.ErrName", "stillroom/api.ErrOrder", "unicode/utf8.first", "unicode/utf8.acceptRanges", "stillroom/api.ErrExist", "stillroom/api.ErrNone", "internal/bytealg.MaxLen"], loops := true, apart := false, laid := [("unicode/utf8.acceptRanges", laid_unicode_utf8_acceptRanges), ("stillroom/api.ErrText", laid_stillroom_api_ErrText), ("stillroom/api.ErrBound", laid_stillroom_api_ErrBound), ("stillroom/api.ErrShape", laid_stillroom_api_ErrShape), ("stillroom/api.ErrKind", laid_stillroom_api_ErrKind), ("stillroom/api.ErrName", laid_stillroom_api_ErrName), ("stillroom/api.ErrNone", laid_stillroom_api_ErrNone), ("stillroom/api.ErrExist", laid_stillroom_api_ErrExist), ("stillroom/api.ErrFull", laid_stillroom_api_ErrFull), ("stillroom/api.ErrDeep", laid_stillroom_api_ErrDeep), ("stillroom/api.ErrOrder", laid_stillroom_api_ErrOrder), ("unicode/utf8.first", laid_unicode_utf8_first)], narrowed := true }
def DiffBackUptoSaid : Prop := diffBackUptoRow.holds Tryd.pinned (OpenSpec.upto diffBackSpec)

/-- 'stillroomlaw1.PackBack', WHERE WHAT IT READS IS OF BULK AT MOST 1048576: true; the input reads as it did. -/
def packBackUptoRow : OpenClaim := { program := "ytoaedkinlnkkhaadoor", sum := "e3234efd7ecb22fec445625531887116e07ce1c86248ec5b702437243fae97b9", func := "stillroom/stillroomlaw1.PackBack", spec := "packBack", inPlace := ["internal/bytealg.IndexByteString", "internal/bytealg.IndexString", "internal/abi.NoEscape"], unfollowed := true, recurses := true, named := ["stillroom/api.ErrBound", "stillroom/api.ErrText", "stillroom/api.ErrDeep", "stillroom/api.ErrFull", "internal/bytealg.MaxLen", "strconv.ErrSyntax", "strconv.ErrRange", "internal/strconv.uint64pow10", "math/bits.deBruijn32tab", "math/bits.deBruijn64tab", "stillroom/api.ErrKind", "stillroom/api.ErrShape", "stillroom/api.ErrName", "stillroom/api.ErrOrder", "unicode/utf8.first", "unicode/utf8.acceptRanges"], loops := true, apart := false, laid := [("math/bits.deBruijn32tab", laid_math_bits_deBruijn32tab), ("math/bits.deBruijn64tab", laid_math_bits_deBruijn64tab), ("internal/strconv.uint64pow10", laid_internal_strconv_uint64pow10), ("unicode/utf8.acceptRanges", laid_unicode_utf8_acceptRanges), ("stillroom/api.ErrText", laid_stillroom_api_ErrText), ("stillroom/api.ErrBound", laid_stillroom_api_ErrBound), ("stillroom/api.ErrShape", laid_stillroom_api_ErrShape), ("stillroom/api.ErrKind", laid_stillroom_api_ErrKind), ("stillroom/api.ErrName", laid_stillroom_api_ErrName), ("stillroom/api.ErrFull", laid_stillroom_api_ErrFull), ("stillroom/api.ErrDeep", laid_stillroom_api_ErrDeep), ("stillroom/api.ErrOrder", laid_stillroom_api_ErrOrder), ("strconv.ErrRange", laid_strconv_ErrRange), ("strconv.ErrSyntax", laid_strconv_ErrSyntax), ("unicode/utf8.first", laid_unicode_utf8_first)], narrowed := true }
def PackBackUptoSaid : Prop := packBackUptoRow.holds Tryd.pinned (OpenSpec.upto packBackSpec)

/-- 'stillroomlaw1.PackFirsts', WHERE WHAT IT READS IS OF BULK AT MOST 1048576: true; the input reads as it did. -/
def packFirstsUptoRow : OpenClaim := { program := "ytoaedkinlnkkhaadoor", sum := "e3234efd7ecb22fec445625531887116e07ce1c86248ec5b702437243fae97b9", func := "stillroom/stillroomlaw1.PackFirsts", spec := "packFirsts", inPlace := ["internal/bytealg.IndexByteString", "internal/bytealg.IndexString", "internal/abi.NoEscape"], unfollowed := true, recurses := true, named := ["stillroom/api.ErrBound", "stillroom/api.ErrText", "stillroom/api.ErrDeep", "stillroom/api.ErrFull", "internal/bytealg.MaxLen", "strconv.ErrSyntax", "strconv.ErrRange", "internal/strconv.uint64pow10", "math/bits.deBruijn32tab", "math/bits.deBruijn64tab", "stillroom/api.ErrKind", "stillroom/api.ErrShape", "stillroom/api.ErrName", "stillroom/api.ErrOrder", "unicode/utf8.first", "unicode/utf8.acceptRanges"], loops := true, apart := false, laid := [("math/bits.deBruijn32tab", laid_math_bits_deBruijn32tab), ("math/bits.deBruijn64tab", laid_math_bits_deBruijn64tab), ("internal/strconv.uint64pow10", laid_internal_strconv_uint64pow10), ("unicode/utf8.acceptRanges", laid_unicode_utf8_acceptRanges), ("stillroom/api.ErrText", laid_stillroom_api_ErrText), ("stillroom/api.ErrBound", laid_stillroom_api_ErrBound), ("stillroom/api.ErrShape", laid_stillroom_api_ErrShape), ("stillroom/api.ErrKind", laid_stillroom_api_ErrKind), ("stillroom/api.ErrName", laid_stillroom_api_ErrName), ("stillroom/api.ErrFull", laid_stillroom_api_ErrFull), ("stillroom/api.ErrDeep", laid_stillroom_api_ErrDeep), ("stillroom/api.ErrOrder", laid_stillroom_api_ErrOrder), ("strconv.ErrRange", laid_strconv_ErrRange), ("strconv.ErrSyntax", laid_strconv_ErrSyntax), ("unicode/utf8.first", laid_unicode_utf8_first)], narrowed := true }
def PackFirstsUptoSaid : Prop := packFirstsUptoRow.holds Tryd.pinned (OpenSpec.upto packFirstsSpec)

end Rows
end Go.Proofs.YtoaedkinlnkkhaaDoor
