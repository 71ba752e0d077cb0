/-
  DERIVED. GIVEN WITH THE SEED: THE PROGRAM's TIES (one call each: nine closed facts by the kernel) AND EACH ROW's TIE, after the 31st guide's Derived/Test/Toyas{Tie, Card}.lean. No idea stands in it: it is a product of the set-up. Laid BY PROGRAM, IN A SANDBOX (cutbox-door.mjs). By AI agents, Wed Nov 11 2026. No macro, syntax, notation, axiom, sorry.
-/
import Derived.Test.YtmcmkocnacdniaaDoorRows
import Derived.LaidByTextLater
import Derived.SevenTiedAt
import Derived.LaidSub
import Derived.LaidOnce
namespace Go.Proofs.YtmcmkocnacdniaaDoor
open Go
set_option maxRecDepth 100000
theorem seatTie1 : Tryd.prog.laidByTextLater [("stillroom/api.ErrBound", Rows.laid_stillroom_api_ErrBound), ("stillroom/api.ErrShape", Rows.laid_stillroom_api_ErrShape), ("stillroom/api.ErrNone", Rows.laid_stillroom_api_ErrNone), ("stillroom/api.ErrFull", Rows.laid_stillroom_api_ErrFull), ("stillroom/api.ErrSum", Rows.laid_stillroom_api_ErrSum)] [.sentinel, .sentinel, .sentinel, .sentinel, .sentinel] true :=
  Program.laidByTextLater_by_one 104 8 2 (by kernel_rfl) (by kernel_rfl) (by kernel_rfl) (by kernel_rfl) (by kernel_rfl) (by kernel_rfl) (fun _ _ => by kernel_rfl)
theorem noOwnUnsafe : Tryd.pinned.checked.prog.headLifts.contains "ownunsafe" = false := by kernel_rfl
theorem tie : Tryd.prog.laidByTextLater [("stillroom/api.ErrBound", Rows.laid_stillroom_api_ErrBound), ("stillroom/api.ErrShape", Rows.laid_stillroom_api_ErrShape), ("stillroom/api.ErrNone", Rows.laid_stillroom_api_ErrNone), ("stillroom/api.ErrFull", Rows.laid_stillroom_api_ErrFull), ("stillroom/api.ErrSum", Rows.laid_stillroom_api_ErrSum)] [.sentinel, .sentinel, .sentinel, .sentinel, .sentinel] true :=
  Program.laidByTextLater.sub seatTie1 ["stillroom/api.ErrBound", "stillroom/api.ErrShape", "stillroom/api.ErrNone", "stillroom/api.ErrFull", "stillroom/api.ErrSum"] (by kernel_rfl) (by kernel_rfl)
theorem inodeKeeps_row_tie : Rows.inodeKeepsRow.laidByTextAt .later Tryd.pinned [.sentinel, .sentinel, .sentinel, .sentinel, .sentinel] true :=
  OpenClaim.laidByTextAt_later rfl rfl tie noOwnUnsafe
theorem inodeKeepsUpto_row_tie : Rows.inodeKeepsUptoRow.laidByTextAt .later Tryd.pinned [.sentinel, .sentinel, .sentinel, .sentinel, .sentinel] true :=
  OpenClaim.laidByTextAt_later rfl rfl tie noOwnUnsafe
end Go.Proofs.YtmcmkocnacdniaaDoor
