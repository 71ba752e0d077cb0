/-
  NARROWER THAN 'FOR EVERY INPUT', by the rows' own cells (each row's printed sentence says how): ScrubMends: laid · InodeActs: laid.
  DERIVED. THE GIVEN ROWS OF THIS SEAT. 2 by the template 'for every input the law returns true; each argument reads behind the call as it read before'; 0 by the template 'total and deterministic' (their statements: YtcpilhembdphoaaGreatDoorTotals.lean).
  GIVEN WITH THE SEED: the statements are not yours to turn. If you find one false, say at which input.
  Laid BY PROGRAM, IN A SANDBOX (cutbox-rows.mjs): the forced cells as the released guide's own fill.sh prints them over the translation c406ec690d304ee6… (all of the seat's roots in one cut). By AI agents, Wed Nov 11 2026. No macro, syntax, notation, axiom, sorry.
-/
import Derived.Test.YtcpilhembdphoaaGreatDoorChecked
import GoSem.Claim
import GoSem.ClaimJoined
import GoSem.ClaimMapViews
import Derived.JoinedTies
import Derived.KernelRfl
namespace Go.Proofs.YtcpilhembdphoaaGreatDoor
/- THE CELL 'sum', in the pinned program and in every row, IS THE sha256 OF THE DUMP (.gsa) THAT YtcpilhembdphoaaGreatDoorProg.lean LOADS. Nothing in Lean hashes anything: it is a label: what it is worth is what the hold of that sum in a sandbox is worth. -/
noncomputable def Tryz.pinned : Pinned := { name := "ytcpilhembdphoaagreatdoor", sum := "c406ec690d304ee6a4c112f07d98824ded9351e7a0ab259526629663035dc6d4", checked := Tryz.checked }
namespace Rows
def none {H : Type} : Left H := { results := [], args := [] }

/- WHAT THE LISTED PACKAGE-LEVEL VARIABLES READ AS WHEN THE CALL BEGINS. Each datum BY PROGRAM (the guide's laid-datum.mjs) off the statement by which the dump's own 'gosem.cut.vars' lays the variable. In a bare row this is a premise. The card (YtcpilhembdphoaaGreatDoorCards.lean) ties it to the program's text. -/
def laid_errors_errorType {H : Type} : DataW H := .iface "internal/reflectlite.rtype" (.agg [.ptr (.lit (.string [101, 114, 114, 111, 114]))])
def laid_stillroom_api_ErrText {H : Type} : DataW H := .iface "*errors.errorString" (.ptr (.agg [.lit (.string [115, 116, 105, 108, 108, 114, 111, 111, 109, 58, 32, 116, 101, 120, 116])]))
def laid_stillroom_api_ErrBound {H : Type} : DataW H := .iface "*errors.errorString" (.ptr (.agg [.lit (.string [115, 116, 105, 108, 108, 114, 111, 111, 109, 58, 32, 98, 111, 117, 110, 100])]))
def laid_stillroom_api_ErrShape {H : Type} : DataW H := .iface "*errors.errorString" (.ptr (.agg [.lit (.string [115, 116, 105, 108, 108, 114, 111, 111, 109, 58, 32, 115, 104, 97, 112, 101])]))
def laid_stillroom_api_ErrKind {H : Type} : DataW H := .iface "*errors.errorString" (.ptr (.agg [.lit (.string [115, 116, 105, 108, 108, 114, 111, 111, 109, 58, 32, 107, 105, 110, 100])]))
def laid_stillroom_api_ErrName {H : Type} : DataW H := .iface "*errors.errorString" (.ptr (.agg [.lit (.string [115, 116, 105, 108, 108, 114, 111, 111, 109, 58, 32, 110, 97, 109, 101])]))
def laid_stillroom_api_ErrNone {H : Type} : DataW H := .iface "*errors.errorString" (.ptr (.agg [.lit (.string [115, 116, 105, 108, 108, 114, 111, 111, 109, 58, 32, 110, 111, 110, 101])]))
def laid_stillroom_api_ErrExist {H : Type} : DataW H := .iface "*errors.errorString" (.ptr (.agg [.lit (.string [115, 116, 105, 108, 108, 114, 111, 111, 109, 58, 32, 101, 120, 105, 115, 116])]))
def laid_stillroom_api_ErrFull {H : Type} : DataW H := .iface "*errors.errorString" (.ptr (.agg [.lit (.string [115, 116, 105, 108, 108, 114, 111, 111, 109, 58, 32, 102, 117, 108, 108])]))
def laid_stillroom_api_ErrDeep {H : Type} : DataW H := .iface "*errors.errorString" (.ptr (.agg [.lit (.string [115, 116, 105, 108, 108, 114, 111, 111, 109, 58, 32, 100, 101, 101, 112])]))
def laid_stillroom_api_ErrOrder {H : Type} : DataW H := .iface "*errors.errorString" (.ptr (.agg [.lit (.string [115, 116, 105, 108, 108, 114, 111, 111, 109, 58, 32, 111, 114, 100, 101, 114])]))
def laid_stillroom_api_ErrSum {H : Type} : DataW H := .iface "*errors.errorString" (.ptr (.agg [.lit (.string [115, 116, 105, 108, 108, 114, 111, 111, 109, 58, 32, 115, 117, 109])]))
def laid_stillroom_api_ErrInUse {H : Type} : DataW H := .iface "*errors.errorString" (.ptr (.agg [.lit (.string [115, 116, 105, 108, 108, 114, 111, 111, 109, 58, 32, 105, 110, 32, 117, 115, 101])]))
def laid_stillroom_api_ErrOff {H : Type} : DataW H := .iface "*errors.errorString" (.ptr (.agg [.lit (.string [115, 116, 105, 108, 108, 114, 111, 111, 109, 58, 32, 111, 102, 102])]))

/-- 'stillroomlaw2.ScrubMends': WHATEVER THE INPUT: true; the input reads as it did. -/
def scrubMendsSpec : ChangeSpec := { name := "scrubMends", fn := fun _ => fun
  | [d1, d2, d3] => { results := [.lit (.bool true)], args := [d1, d2, d3] }
  | _ => none }
def scrubMendsRow : OpenClaim := { program := "ytcpilhembdphoaagreatdoor", sum := "c406ec690d304ee6a4c112f07d98824ded9351e7a0ab259526629663035dc6d4", func := "stillroom/stillroomlaw2.ScrubMends", spec := "scrubMends", inPlace := ["internal/abi.NoEscape", "internal/bytealg.MakeNoZero", "internal/reflectlite.ValueOf", "(internal/reflectlite.Value).Type", "(internal/reflectlite.Value).IsNil", "internal/reflectlite.TypeOf", "(internal/reflectlite.Value).Elem", "(internal/reflectlite.Value).Set"], unfollowed := true, recurses := true, named := ["stillroom/api.ErrBound", "stillroom/api.ErrShape", "stillroom/api.ErrFull", "stillroom/api.ErrNone", "stillroom/api.ErrSum", "stillroom/api.ErrExist", "stillroom/api.ErrText", "stillroom/api.ErrKind", "stillroom/api.ErrName", "stillroom/api.ErrDeep", "stillroom/api.ErrOrder", "stillroom/api.ErrInUse", "stillroom/api.ErrOff", "errors.errorType"], apart := false, laid := [("errors.errorType", laid_errors_errorType), ("stillroom/api.ErrText", laid_stillroom_api_ErrText), ("stillroom/api.ErrBound", laid_stillroom_api_ErrBound), ("stillroom/api.ErrShape", laid_stillroom_api_ErrShape), ("stillroom/api.ErrKind", laid_stillroom_api_ErrKind), ("stillroom/api.ErrName", laid_stillroom_api_ErrName), ("stillroom/api.ErrNone", laid_stillroom_api_ErrNone), ("stillroom/api.ErrExist", laid_stillroom_api_ErrExist), ("stillroom/api.ErrFull", laid_stillroom_api_ErrFull), ("stillroom/api.ErrDeep", laid_stillroom_api_ErrDeep), ("stillroom/api.ErrOrder", laid_stillroom_api_ErrOrder), ("stillroom/api.ErrSum", laid_stillroom_api_ErrSum), ("stillroom/api.ErrInUse", laid_stillroom_api_ErrInUse), ("stillroom/api.ErrOff", laid_stillroom_api_ErrOff)] }
def ScrubMendsSaid : Prop := scrubMendsRow.holds Tryz.pinned (OpenSpec.ofChange scrubMendsSpec)

/-- ITS FALSE NEIGHBOUR: 'it returns false'. Refute it at one input. -/
def scrubMendsWrong : ChangeSpec := { name := "scrubMends", fn := fun _ => fun
  | [d1, d2, d3] => { results := [.lit (.bool false)], args := [d1, d2, d3] }
  | _ => none }
def ScrubMendsWrongFalsely : Prop := scrubMendsRow.holds Tryz.pinned (OpenSpec.ofChange scrubMendsWrong)

/-- 'stillroomlaw2.InodeActs': WHATEVER THE INPUT: true; the input reads as it did. -/
def inodeActsSpec : ChangeSpec := { name := "inodeActs", fn := fun _ => fun
  | [d1, d2, d3] => { results := [.lit (.bool true)], args := [d1, d2, d3] }
  | _ => none }
def inodeActsRow : OpenClaim := { program := "ytcpilhembdphoaagreatdoor", sum := "c406ec690d304ee6a4c112f07d98824ded9351e7a0ab259526629663035dc6d4", func := "stillroom/stillroomlaw2.InodeActs", spec := "inodeActs", inPlace := ["internal/abi.NoEscape", "internal/bytealg.MakeNoZero", "internal/reflectlite.ValueOf", "(internal/reflectlite.Value).Type", "(internal/reflectlite.Value).IsNil", "internal/reflectlite.TypeOf", "(internal/reflectlite.Value).Elem", "(internal/reflectlite.Value).Set"], unfollowed := true, recurses := true, named := ["stillroom/api.ErrBound", "stillroom/api.ErrShape", "stillroom/api.ErrFull", "stillroom/api.ErrNone", "stillroom/api.ErrSum", "stillroom/api.ErrText", "stillroom/api.ErrKind", "stillroom/api.ErrName", "stillroom/api.ErrExist", "stillroom/api.ErrDeep", "stillroom/api.ErrOrder", "stillroom/api.ErrInUse", "stillroom/api.ErrOff", "errors.errorType"], apart := false, laid := [("errors.errorType", laid_errors_errorType), ("stillroom/api.ErrText", laid_stillroom_api_ErrText), ("stillroom/api.ErrBound", laid_stillroom_api_ErrBound), ("stillroom/api.ErrShape", laid_stillroom_api_ErrShape), ("stillroom/api.ErrKind", laid_stillroom_api_ErrKind), ("stillroom/api.ErrName", laid_stillroom_api_ErrName), ("stillroom/api.ErrNone", laid_stillroom_api_ErrNone), ("stillroom/api.ErrExist", laid_stillroom_api_ErrExist), ("stillroom/api.ErrFull", laid_stillroom_api_ErrFull), ("stillroom/api.ErrDeep", laid_stillroom_api_ErrDeep), ("stillroom/api.ErrOrder", laid_stillroom_api_ErrOrder), ("stillroom/api.ErrSum", laid_stillroom_api_ErrSum), ("stillroom/api.ErrInUse", laid_stillroom_api_ErrInUse), ("stillroom/api.ErrOff", laid_stillroom_api_ErrOff)] }
def InodeActsSaid : Prop := inodeActsRow.holds Tryz.pinned (OpenSpec.ofChange inodeActsSpec)

/-- ITS FALSE NEIGHBOUR: 'it returns false'. Refute it at one input. -/
def inodeActsWrong : ChangeSpec := { name := "inodeActs", fn := fun _ => fun
  | [d1, d2, d3] => { results := [.lit (.bool false)], args := [d1, d2, d3] }
  | _ => none }
def InodeActsWrongFalsely : Prop := inodeActsRow.holds Tryz.pinned (OpenSpec.ofChange inodeActsWrong)

/- THE SECOND FORM. 'bulk': how many values and letters a reading holds, each counted each time it is reached (what is shared counts as often as it is met; a slice's spare places count too). A statement '..UptoSaid' is the law's where the arguments, and the package variables that the reading takes, are together of bulk at most 1048576: NARROWER than '..Said'. Prove '..Said' where nothing that the law and all that it calls make is longer than what came in: it says more and counts as full. Else prove '..UptoSaid'. A law counts once. -/
mutual
def uptoBulk {H : Type} : DataW H → Nat
  | .lit (.string bytes) => bytes.length + 1
  | .lit _ => 1
  | .nil => 1
  | .ptr d => uptoBulk d + 1
  | .slice elems spare => uptoBulkAll elems + uptoBulkAll spare + 1
  | .agg parts => uptoBulkAll parts + 1
  | .iface _ d => uptoBulk d + 1
  | .map entries => uptoBulkEntries entries + 1
  | .held _ => 1
def uptoBulkAll {H : Type} : List (DataW H) → Nat
  | [] => 0
  | d :: r => uptoBulk d + uptoBulkAll r
def uptoBulkEntries {H : Type} : List (Lit × DataW H) → Nat
  | [] => 0
  | x :: r => uptoBulkEntry x + uptoBulkEntries r
def uptoBulkEntry {H : Type} : Lit × DataW H → Nat
  | (.string bytes, d) => bytes.length + uptoBulk d + 1
  | (_, d) => uptoBulk d + 1
 end
def uptoSmall : (H : Type) → List (DataW H) → Bool := fun _ ds => decide (uptoBulkAll ds ≤ 1048576)
def OpenSpec.upto (s : _root_.Go.ChangeSpec) : _root_.Go.OpenSpec := { _root_.Go.OpenSpec.ofChange s with cond := some uptoSmall }

/-- 'stillroomlaw2.ScrubMends', WHERE WHAT IT READS IS OF BULK AT MOST 1048576: true; the input reads as it did. -/
def scrubMendsUptoRow : OpenClaim := { program := "ytcpilhembdphoaagreatdoor", sum := "c406ec690d304ee6a4c112f07d98824ded9351e7a0ab259526629663035dc6d4", func := "stillroom/stillroomlaw2.ScrubMends", spec := "scrubMends", inPlace := ["internal/abi.NoEscape", "internal/bytealg.MakeNoZero", "internal/reflectlite.ValueOf", "(internal/reflectlite.Value).Type", "(internal/reflectlite.Value).IsNil", "internal/reflectlite.TypeOf", "(internal/reflectlite.Value).Elem", "(internal/reflectlite.Value).Set"], unfollowed := true, recurses := true, named := ["stillroom/api.ErrBound", "stillroom/api.ErrShape", "stillroom/api.ErrFull", "stillroom/api.ErrNone", "stillroom/api.ErrSum", "stillroom/api.ErrExist", "stillroom/api.ErrText", "stillroom/api.ErrKind", "stillroom/api.ErrName", "stillroom/api.ErrDeep", "stillroom/api.ErrOrder", "stillroom/api.ErrInUse", "stillroom/api.ErrOff", "errors.errorType"], apart := false, laid := [("errors.errorType", laid_errors_errorType), ("stillroom/api.ErrText", laid_stillroom_api_ErrText), ("stillroom/api.ErrBound", laid_stillroom_api_ErrBound), ("stillroom/api.ErrShape", laid_stillroom_api_ErrShape), ("stillroom/api.ErrKind", laid_stillroom_api_ErrKind), ("stillroom/api.ErrName", laid_stillroom_api_ErrName), ("stillroom/api.ErrNone", laid_stillroom_api_ErrNone), ("stillroom/api.ErrExist", laid_stillroom_api_ErrExist), ("stillroom/api.ErrFull", laid_stillroom_api_ErrFull), ("stillroom/api.ErrDeep", laid_stillroom_api_ErrDeep), ("stillroom/api.ErrOrder", laid_stillroom_api_ErrOrder), ("stillroom/api.ErrSum", laid_stillroom_api_ErrSum), ("stillroom/api.ErrInUse", laid_stillroom_api_ErrInUse), ("stillroom/api.ErrOff", laid_stillroom_api_ErrOff)], narrowed := true }
def ScrubMendsUptoSaid : Prop := scrubMendsUptoRow.holds Tryz.pinned (OpenSpec.upto scrubMendsSpec)

/-- 'stillroomlaw2.InodeActs', WHERE WHAT IT READS IS OF BULK AT MOST 1048576: true; the input reads as it did. -/
def inodeActsUptoRow : OpenClaim := { program := "ytcpilhembdphoaagreatdoor", sum := "c406ec690d304ee6a4c112f07d98824ded9351e7a0ab259526629663035dc6d4", func := "stillroom/stillroomlaw2.InodeActs", spec := "inodeActs", inPlace := ["internal/abi.NoEscape", "internal/bytealg.MakeNoZero", "internal/reflectlite.ValueOf", "(internal/reflectlite.Value).Type", "(internal/reflectlite.Value).IsNil", "internal/reflectlite.TypeOf", "(internal/reflectlite.Value).Elem", "(internal/reflectlite.Value).Set"], unfollowed := true, recurses := true, named := ["stillroom/api.ErrBound", "stillroom/api.ErrShape", "stillroom/api.ErrFull", "stillroom/api.ErrNone", "stillroom/api.ErrSum", "stillroom/api.ErrText", "stillroom/api.ErrKind", "stillroom/api.ErrName", "stillroom/api.ErrExist", "stillroom/api.ErrDeep", "stillroom/api.ErrOrder", "stillroom/api.ErrInUse", "stillroom/api.ErrOff", "errors.errorType"], apart := false, laid := [("errors.errorType", laid_errors_errorType), ("stillroom/api.ErrText", laid_stillroom_api_ErrText), ("stillroom/api.ErrBound", laid_stillroom_api_ErrBound), ("stillroom/api.ErrShape", laid_stillroom_api_ErrShape), ("stillroom/api.ErrKind", laid_stillroom_api_ErrKind), ("stillroom/api.ErrName", laid_stillroom_api_ErrName), ("stillroom/api.ErrNone", laid_stillroom_api_ErrNone), ("stillroom/api.ErrExist", laid_stillroom_api_ErrExist), ("stillroom/api.ErrFull", laid_stillroom_api_ErrFull), ("stillroom/api.ErrDeep", laid_stillroom_api_ErrDeep), ("stillroom/api.ErrOrder", laid_stillroom_api_ErrOrder), ("stillroom/api.ErrSum", laid_stillroom_api_ErrSum), ("stillroom/api.ErrInUse", laid_stillroom_api_ErrInUse), ("stillroom/api.ErrOff", laid_stillroom_api_ErrOff)], narrowed := true }
def InodeActsUptoSaid : Prop := inodeActsUptoRow.holds Tryz.pinned (OpenSpec.upto inodeActsSpec)

end Rows
end Go.Proofs.YtcpilhembdphoaaGreatDoor
