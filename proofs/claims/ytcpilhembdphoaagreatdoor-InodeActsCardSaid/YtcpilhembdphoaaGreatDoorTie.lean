/-
  DERIVED. GIVEN WITH THE SEED: THE PROGRAM's TIES (one call each: nine closed facts by the kernel) AND EACH ROW's TIE, after the 31st guide's Derived/Test/Toyas{Tie, Card}.lean. No idea stands in it: it is a product of the set-up. Laid BY PROGRAM, IN A SANDBOX (cutbox-door.mjs). By AI agents, Wed Nov 11 2026. No macro, syntax, notation, axiom, sorry.
-/
import Derived.Test.YtcpilhembdphoaaGreatDoorRows
import Derived.LaidByTextLater
import Derived.SevenTiedAt
import Derived.LaidSub
import Derived.LaidOnce
namespace Go.Proofs.YtcpilhembdphoaaGreatDoor
open Go
set_option maxRecDepth 100000
theorem seatTie1 : Tryz.prog.laidByTextLater [("errors.errorType", Rows.laid_errors_errorType), ("stillroom/api.ErrText", Rows.laid_stillroom_api_ErrText), ("stillroom/api.ErrBound", Rows.laid_stillroom_api_ErrBound), ("stillroom/api.ErrShape", Rows.laid_stillroom_api_ErrShape), ("stillroom/api.ErrKind", Rows.laid_stillroom_api_ErrKind), ("stillroom/api.ErrName", Rows.laid_stillroom_api_ErrName), ("stillroom/api.ErrNone", Rows.laid_stillroom_api_ErrNone), ("stillroom/api.ErrExist", Rows.laid_stillroom_api_ErrExist), ("stillroom/api.ErrFull", Rows.laid_stillroom_api_ErrFull), ("stillroom/api.ErrDeep", Rows.laid_stillroom_api_ErrDeep), ("stillroom/api.ErrOrder", Rows.laid_stillroom_api_ErrOrder), ("stillroom/api.ErrSum", Rows.laid_stillroom_api_ErrSum), ("stillroom/api.ErrInUse", Rows.laid_stillroom_api_ErrInUse), ("stillroom/api.ErrOff", Rows.laid_stillroom_api_ErrOff)] [.handle, .sentinel, .sentinel, .sentinel, .sentinel, .sentinel, .sentinel, .sentinel, .sentinel, .sentinel, .sentinel, .sentinel, .sentinel, .sentinel] true :=
  Program.laidByTextLater_by_one 263 8 2 (by kernel_rfl) (by kernel_rfl) (by kernel_rfl) (by kernel_rfl) (by kernel_rfl) (by kernel_rfl) (fun _ _ => by kernel_rfl)
theorem noOwnUnsafe : Tryz.pinned.checked.prog.headLifts.contains "ownunsafe" = false := by kernel_rfl
theorem tie : Tryz.prog.laidByTextLater [("errors.errorType", Rows.laid_errors_errorType), ("stillroom/api.ErrText", Rows.laid_stillroom_api_ErrText), ("stillroom/api.ErrBound", Rows.laid_stillroom_api_ErrBound), ("stillroom/api.ErrShape", Rows.laid_stillroom_api_ErrShape), ("stillroom/api.ErrKind", Rows.laid_stillroom_api_ErrKind), ("stillroom/api.ErrName", Rows.laid_stillroom_api_ErrName), ("stillroom/api.ErrNone", Rows.laid_stillroom_api_ErrNone), ("stillroom/api.ErrExist", Rows.laid_stillroom_api_ErrExist), ("stillroom/api.ErrFull", Rows.laid_stillroom_api_ErrFull), ("stillroom/api.ErrDeep", Rows.laid_stillroom_api_ErrDeep), ("stillroom/api.ErrOrder", Rows.laid_stillroom_api_ErrOrder), ("stillroom/api.ErrSum", Rows.laid_stillroom_api_ErrSum), ("stillroom/api.ErrInUse", Rows.laid_stillroom_api_ErrInUse), ("stillroom/api.ErrOff", Rows.laid_stillroom_api_ErrOff)] [.handle, .sentinel, .sentinel, .sentinel, .sentinel, .sentinel, .sentinel, .sentinel, .sentinel, .sentinel, .sentinel, .sentinel, .sentinel, .sentinel] true :=
  Program.laidByTextLater.sub seatTie1 ["errors.errorType", "stillroom/api.ErrText", "stillroom/api.ErrBound", "stillroom/api.ErrShape", "stillroom/api.ErrKind", "stillroom/api.ErrName", "stillroom/api.ErrNone", "stillroom/api.ErrExist", "stillroom/api.ErrFull", "stillroom/api.ErrDeep", "stillroom/api.ErrOrder", "stillroom/api.ErrSum", "stillroom/api.ErrInUse", "stillroom/api.ErrOff"] (by kernel_rfl) (by kernel_rfl)
theorem scrubMends_row_tie : Rows.scrubMendsRow.laidByTextAt .later Tryz.pinned [.handle, .sentinel, .sentinel, .sentinel, .sentinel, .sentinel, .sentinel, .sentinel, .sentinel, .sentinel, .sentinel, .sentinel, .sentinel, .sentinel] true :=
  OpenClaim.laidByTextAt_later rfl rfl tie noOwnUnsafe
theorem inodeActs_row_tie : Rows.inodeActsRow.laidByTextAt .later Tryz.pinned [.handle, .sentinel, .sentinel, .sentinel, .sentinel, .sentinel, .sentinel, .sentinel, .sentinel, .sentinel, .sentinel, .sentinel, .sentinel, .sentinel] true :=
  OpenClaim.laidByTextAt_later rfl rfl tie noOwnUnsafe
theorem scrubMendsUpto_row_tie : Rows.scrubMendsUptoRow.laidByTextAt .later Tryz.pinned [.handle, .sentinel, .sentinel, .sentinel, .sentinel, .sentinel, .sentinel, .sentinel, .sentinel, .sentinel, .sentinel, .sentinel, .sentinel, .sentinel] true :=
  OpenClaim.laidByTextAt_later rfl rfl tie noOwnUnsafe
theorem inodeActsUpto_row_tie : Rows.inodeActsUptoRow.laidByTextAt .later Tryz.pinned [.handle, .sentinel, .sentinel, .sentinel, .sentinel, .sentinel, .sentinel, .sentinel, .sentinel, .sentinel, .sentinel, .sentinel, .sentinel, .sentinel] true :=
  OpenClaim.laidByTextAt_later rfl rfl tie noOwnUnsafe
end Go.Proofs.YtcpilhembdphoaaGreatDoor
