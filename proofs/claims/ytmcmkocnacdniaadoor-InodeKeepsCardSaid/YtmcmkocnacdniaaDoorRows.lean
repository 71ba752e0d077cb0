/-
  NARROWER THAN 'FOR EVERY INPUT', by the rows' own cells (each row's printed sentence says how): InodeKeeps: laid.
  DERIVED. THE GIVEN ROWS OF THIS SEAT. 1 by the template 'for every input the law returns true; each argument reads behind the call as it read before'; 0 by the template 'total and deterministic' (their statements: YtmcmkocnacdniaaDoorTotals.lean).
  GIVEN WITH THE SEED: the statements are not yours to turn. If you find one false, say at which input.
  Laid BY PROGRAM, IN A SANDBOX (cutbox-rows.mjs): the forced cells as the released guide's own fill.sh prints them over the translation 29d934c77250b29c… (all of the seat's roots in one cut). By AI agents, Wed Nov 11 2026. No macro, syntax, notation, axiom, sorry.
-/
import Derived.Test.YtmcmkocnacdniaaDoorChecked
import GoSem.Claim
import GoSem.ClaimJoined
import GoSem.ClaimMapViews
import Derived.JoinedTies
import Derived.KernelRfl
namespace Go.Proofs.YtmcmkocnacdniaaDoor
/- THE CELL 'sum', in the pinned program and in every row, IS THE sha256 OF THE DUMP (.gsa) THAT YtmcmkocnacdniaaDoorProg.lean LOADS. Nothing in Lean hashes anything: it is a label: what it is worth is what the hold of that sum in a sandbox is worth. -/
noncomputable def Tryd.pinned : Pinned := { name := "ytmcmkocnacdniaadoor", sum := "29d934c77250b29c3f0c22dc6755b36614f0ee6110bd759ea96fd38c1a247ec2", checked := Tryd.checked }
namespace Rows
def none {H : Type} : Left H := { results := [], args := [] }

/- WHAT THE LISTED PACKAGE-LEVEL VARIABLES READ AS WHEN THE CALL BEGINS. Each datum BY PROGRAM (the guide's laid-datum.mjs) off the statement by which the dump's own 'gosem.cut.vars' lays the variable. In a bare row this is a premise. The card (YtmcmkocnacdniaaDoorCards.lean) ties it to the program's text. -/
def laid_stillroom_api_ErrBound {H : Type} : DataW H := .iface "*errors.errorString" (.ptr (.agg [.lit (.string [115, 116, 105, 108, 108, 114, 111, 111, 109, 58, 32, 98, 111, 117, 110, 100])]))
def laid_stillroom_api_ErrShape {H : Type} : DataW H := .iface "*errors.errorString" (.ptr (.agg [.lit (.string [115, 116, 105, 108, 108, 114, 111, 111, 109, 58, 32, 115, 104, 97, 112, 101])]))
def laid_stillroom_api_ErrNone {H : Type} : DataW H := .iface "*errors.errorString" (.ptr (.agg [.lit (.string [115, 116, 105, 108, 108, 114, 111, 111, 109, 58, 32, 110, 111, 110, 101])]))
def laid_stillroom_api_ErrFull {H : Type} : DataW H := .iface "*errors.errorString" (.ptr (.agg [.lit (.string [115, 116, 105, 108, 108, 114, 111, 111, 109, 58, 32, 102, 117, 108, 108])]))
def laid_stillroom_api_ErrSum {H : Type} : DataW H := .iface "*errors.errorString" (.ptr (.agg [.lit (.string [115, 116, 105, 108, 108, 114, 111, 111, 109, 58, 32, 115, 117, 109])]))

/-- 'stillroomlaw2.InodeKeeps': WHATEVER THE INPUT: true; the input reads as it did. -/
def inodeKeepsSpec : ChangeSpec := { name := "inodeKeeps", fn := fun _ => fun
  | [d1, d2] => { results := [.lit (.bool true)], args := [d1, d2] }
  | _ => none }
def inodeKeepsRow : OpenClaim := { program := "ytmcmkocnacdniaadoor", sum := "29d934c77250b29c3f0c22dc6755b36614f0ee6110bd759ea96fd38c1a247ec2", func := "stillroom/stillroomlaw2.InodeKeeps", spec := "inodeKeeps", inPlace := ["internal/abi.NoEscape", "internal/bytealg.MakeNoZero"], unfollowed := true, recurses := true, named := ["stillroom/api.ErrBound", "stillroom/api.ErrShape", "stillroom/api.ErrFull", "stillroom/api.ErrNone", "stillroom/api.ErrSum"], apart := false, laid := [("stillroom/api.ErrBound", laid_stillroom_api_ErrBound), ("stillroom/api.ErrShape", laid_stillroom_api_ErrShape), ("stillroom/api.ErrNone", laid_stillroom_api_ErrNone), ("stillroom/api.ErrFull", laid_stillroom_api_ErrFull), ("stillroom/api.ErrSum", laid_stillroom_api_ErrSum)] }
def InodeKeepsSaid : Prop := inodeKeepsRow.holds Tryd.pinned (OpenSpec.ofChange inodeKeepsSpec)

/-- ITS FALSE NEIGHBOUR: 'it returns false'. Refute it at one input. -/
def inodeKeepsWrong : ChangeSpec := { name := "inodeKeeps", fn := fun _ => fun
  | [d1, d2] => { results := [.lit (.bool false)], args := [d1, d2] }
  | _ => none }
def InodeKeepsWrongFalsely : Prop := inodeKeepsRow.holds Tryd.pinned (OpenSpec.ofChange inodeKeepsWrong)

/- THE SECOND FORM. 'bulk': how many values and letters a reading holds, each counted each time it is reached (what is shared counts as often as it is met; a slice's spare places count too). A statement '..UptoSaid' is the law's where the arguments, and the package variables that the reading takes, are together of bulk at most 1048576: NARROWER than '..Said'. Prove '..Said' where nothing that the law and all that it calls make is longer than what came in: it says more and counts as full. Else prove '..UptoSaid'. A law counts once. -/
mutual
def uptoBulk {H : Type} : DataW H → Nat
  | .lit (.string bytes) => bytes.length + 1
  | .lit _ => 1
  | .nil => 1
  | .ptr d => uptoBulk d + 1
  | .slice elems spare => uptoBulkAll elems + uptoBulkAll spare + 1
  | .agg parts => uptoBulkAll parts + 1
  | .iface _ d => uptoBulk d + 1
  | .map entries => uptoBulkEntries entries + 1
  | .held _ => 1
def uptoBulkAll {H : Type} : List (DataW H) → Nat
  | [] => 0
  | d :: r => uptoBulk d + uptoBulkAll r
def uptoBulkEntries {H : Type} : List (Lit × DataW H) → Nat
  | [] => 0
  | x :: r => uptoBulkEntry x + uptoBulkEntries r
def uptoBulkEntry {H : Type} : Lit × DataW H → Nat
  | (.string bytes, d) => bytes.length + uptoBulk d + 1
  | (_, d) => uptoBulk d + 1
 end
def uptoSmall : (H : Type) → List (DataW H) → Bool := fun _ ds => decide (uptoBulkAll ds ≤ 1048576)
def OpenSpec.upto (s : _root_.Go.ChangeSpec) : _root_.Go.OpenSpec := { _root_.Go.OpenSpec.ofChange s with cond := some uptoSmall }

/-- 'stillroomlaw2.InodeKeeps', WHERE WHAT IT READS IS OF BULK AT MOST 1048576: true; the input reads as it did. -/
def inodeKeepsUptoRow : OpenClaim := { program := "ytmcmkocnacdniaadoor", sum := "29d934c77250b29c3f0c22dc6755b36614f0ee6110bd759ea96fd38c1a247ec2", func := "stillroom/stillroomlaw2.InodeKeeps", spec := "inodeKeeps", inPlace := ["internal/abi.NoEscape", "internal/bytealg.MakeNoZero"], unfollowed := true, recurses := true, named := ["stillroom/api.ErrBound", "stillroom/api.ErrShape", "stillroom/api.ErrFull", "stillroom/api.ErrNone", "stillroom/api.ErrSum"], apart := false, laid := [("stillroom/api.ErrBound", laid_stillroom_api_ErrBound), ("stillroom/api.ErrShape", laid_stillroom_api_ErrShape), ("stillroom/api.ErrNone", laid_stillroom_api_ErrNone), ("stillroom/api.ErrFull", laid_stillroom_api_ErrFull), ("stillroom/api.ErrSum", laid_stillroom_api_ErrSum)], narrowed := true }
def InodeKeepsUptoSaid : Prop := inodeKeepsUptoRow.holds Tryd.pinned (OpenSpec.upto inodeKeepsSpec)

end Rows
end Go.Proofs.YtmcmkocnacdniaaDoor
