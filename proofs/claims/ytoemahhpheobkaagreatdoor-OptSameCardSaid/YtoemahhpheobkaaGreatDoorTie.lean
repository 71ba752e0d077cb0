/-
  DERIVED. GIVEN WITH THE SEED: THE PROGRAM's TIES (one call each: nine closed facts by the kernel) AND EACH ROW's TIE, after the 31st guide's Derived/Test/Toyas{Tie, Card}.lean. No idea stands in it: it is a product of the set-up. Laid BY PROGRAM, IN A SANDBOX (cutbox-door.mjs). By AI agents, Wed Nov 11 2026. No macro, syntax, notation, axiom, sorry.
-/
import Derived.Test.YtoemahhpheobkaaGreatDoorRows
import Derived.LaidByTextLater
import Derived.SevenTiedAt
import Derived.LaidSub
import Derived.LaidOnce
namespace Go.Proofs.YtoemahhpheobkaaGreatDoor
open Go
set_option maxRecDepth 100000
theorem seatTie1 : Tryz.prog.laidByTextLater [("unicode/utf8.acceptRanges", Rows.laid_unicode_utf8_acceptRanges), ("stillroom/api.ErrText", Rows.laid_stillroom_api_ErrText), ("stillroom/api.ErrBound", Rows.laid_stillroom_api_ErrBound), ("stillroom/api.ErrShape", Rows.laid_stillroom_api_ErrShape), ("stillroom/api.ErrKind", Rows.laid_stillroom_api_ErrKind), ("stillroom/api.ErrName", Rows.laid_stillroom_api_ErrName), ("stillroom/api.ErrNone", Rows.laid_stillroom_api_ErrNone), ("stillroom/api.ErrFull", Rows.laid_stillroom_api_ErrFull), ("stillroom/api.ErrDeep", Rows.laid_stillroom_api_ErrDeep), ("stillroom/api.ErrOrder", Rows.laid_stillroom_api_ErrOrder), ("stillroom/api.ErrSum", Rows.laid_stillroom_api_ErrSum)] [.data, .sentinel, .sentinel, .sentinel, .sentinel, .sentinel, .sentinel, .sentinel, .sentinel, .sentinel, .sentinel] true :=
  Program.laidByTextLater_by_one 209 8 33 (by kernel_rfl) (by kernel_rfl) (by kernel_rfl) (by kernel_rfl) (by kernel_rfl) (by kernel_rfl) (fun _ _ => by kernel_rfl)
theorem pin_laid_unicode_utf8_first : Tryz.pinned.checked.prog.pinnedFits "unicode/utf8.first" = true := by kernel_rfl
theorem noOwnUnsafe : Tryz.pinned.checked.prog.headLifts.contains "ownunsafe" = false := by kernel_rfl
theorem fits1 : Tryz.pinned.checked.prog.listedFits [("unicode/utf8.acceptRanges", Rows.laid_unicode_utf8_acceptRanges), ("stillroom/api.ErrText", Rows.laid_stillroom_api_ErrText), ("stillroom/api.ErrBound", Rows.laid_stillroom_api_ErrBound), ("stillroom/api.ErrShape", Rows.laid_stillroom_api_ErrShape), ("stillroom/api.ErrKind", Rows.laid_stillroom_api_ErrKind), ("stillroom/api.ErrName", Rows.laid_stillroom_api_ErrName), ("stillroom/api.ErrNone", Rows.laid_stillroom_api_ErrNone), ("stillroom/api.ErrFull", Rows.laid_stillroom_api_ErrFull), ("stillroom/api.ErrDeep", Rows.laid_stillroom_api_ErrDeep), ("stillroom/api.ErrOrder", Rows.laid_stillroom_api_ErrOrder), ("stillroom/api.ErrSum", Rows.laid_stillroom_api_ErrSum), ("unicode/utf8.first", Rows.laid_unicode_utf8_first)] = true := by
  unfold Program.listedFits
  rw [noOwnUnsafe]
  kernel_rfl
theorem tie : Tryz.prog.laidByTextLater [("unicode/utf8.acceptRanges", Rows.laid_unicode_utf8_acceptRanges), ("stillroom/api.ErrText", Rows.laid_stillroom_api_ErrText), ("stillroom/api.ErrBound", Rows.laid_stillroom_api_ErrBound), ("stillroom/api.ErrShape", Rows.laid_stillroom_api_ErrShape), ("stillroom/api.ErrKind", Rows.laid_stillroom_api_ErrKind), ("stillroom/api.ErrName", Rows.laid_stillroom_api_ErrName), ("stillroom/api.ErrNone", Rows.laid_stillroom_api_ErrNone), ("stillroom/api.ErrFull", Rows.laid_stillroom_api_ErrFull), ("stillroom/api.ErrDeep", Rows.laid_stillroom_api_ErrDeep), ("stillroom/api.ErrOrder", Rows.laid_stillroom_api_ErrOrder), ("stillroom/api.ErrSum", Rows.laid_stillroom_api_ErrSum)] [.data, .sentinel, .sentinel, .sentinel, .sentinel, .sentinel, .sentinel, .sentinel, .sentinel, .sentinel, .sentinel] true :=
  Program.laidByTextLater.sub seatTie1 ["unicode/utf8.acceptRanges", "stillroom/api.ErrText", "stillroom/api.ErrBound", "stillroom/api.ErrShape", "stillroom/api.ErrKind", "stillroom/api.ErrName", "stillroom/api.ErrNone", "stillroom/api.ErrFull", "stillroom/api.ErrDeep", "stillroom/api.ErrOrder", "stillroom/api.ErrSum"] (by kernel_rfl) (by kernel_rfl)
theorem dirsLinks_row_tie : Rows.dirsLinksRow.laidByTextAt .later Tryz.pinned [.data, .sentinel, .sentinel, .sentinel, .sentinel, .sentinel, .sentinel, .sentinel, .sentinel, .sentinel, .sentinel, .pinned] true :=
  OpenClaim.laidByTextAt_pinned rfl rfl tie rfl rfl rfl rfl (fun y hy _e => by
    simp only [Rows.dirsLinksRow, List.zip_cons_cons, List.zip_nil_right, List.mem_cons, List.mem_nil_iff, or_false] at hy
    rcases hy with rfl | rfl | rfl | rfl | rfl | rfl | rfl | rfl | rfl | rfl | rfl | rfl
    · cases _e
    · cases _e
    · cases _e
    · cases _e
    · cases _e
    · cases _e
    · cases _e
    · cases _e
    · cases _e
    · cases _e
    · cases _e
    · exact ⟨pin_laid_unicode_utf8_first, by kernel_rfl⟩) fits1
theorem optSame_row_tie : Rows.optSameRow.laidByTextAt .later Tryz.pinned [.data, .sentinel, .sentinel, .sentinel, .sentinel, .sentinel, .sentinel, .sentinel, .sentinel, .sentinel, .sentinel, .pinned] true :=
  OpenClaim.laidByTextAt_pinned rfl rfl tie rfl rfl rfl rfl (fun y hy _e => by
    simp only [Rows.optSameRow, List.zip_cons_cons, List.zip_nil_right, List.mem_cons, List.mem_nil_iff, or_false] at hy
    rcases hy with rfl | rfl | rfl | rfl | rfl | rfl | rfl | rfl | rfl | rfl | rfl | rfl
    · cases _e
    · cases _e
    · cases _e
    · cases _e
    · cases _e
    · cases _e
    · cases _e
    · cases _e
    · cases _e
    · cases _e
    · cases _e
    · exact ⟨pin_laid_unicode_utf8_first, by kernel_rfl⟩) fits1
theorem dirsLinksUpto_row_tie : Rows.dirsLinksUptoRow.laidByTextAt .later Tryz.pinned [.data, .sentinel, .sentinel, .sentinel, .sentinel, .sentinel, .sentinel, .sentinel, .sentinel, .sentinel, .sentinel, .pinned] true :=
  OpenClaim.laidByTextAt_pinned rfl rfl tie rfl rfl rfl rfl (fun y hy _e => by
    simp only [Rows.dirsLinksUptoRow, List.zip_cons_cons, List.zip_nil_right, List.mem_cons, List.mem_nil_iff, or_false] at hy
    rcases hy with rfl | rfl | rfl | rfl | rfl | rfl | rfl | rfl | rfl | rfl | rfl | rfl
    · cases _e
    · cases _e
    · cases _e
    · cases _e
    · cases _e
    · cases _e
    · cases _e
    · cases _e
    · cases _e
    · cases _e
    · cases _e
    · exact ⟨pin_laid_unicode_utf8_first, by kernel_rfl⟩) fits1
theorem optSameUpto_row_tie : Rows.optSameUptoRow.laidByTextAt .later Tryz.pinned [.data, .sentinel, .sentinel, .sentinel, .sentinel, .sentinel, .sentinel, .sentinel, .sentinel, .sentinel, .sentinel, .pinned] true :=
  OpenClaim.laidByTextAt_pinned rfl rfl tie rfl rfl rfl rfl (fun y hy _e => by
    simp only [Rows.optSameUptoRow, List.zip_cons_cons, List.zip_nil_right, List.mem_cons, List.mem_nil_iff, or_false] at hy
    rcases hy with rfl | rfl | rfl | rfl | rfl | rfl | rfl | rfl | rfl | rfl | rfl | rfl
    · cases _e
    · cases _e
    · cases _e
    · cases _e
    · cases _e
    · cases _e
    · cases _e
    · cases _e
    · cases _e
    · cases _e
    · cases _e
    · exact ⟨pin_laid_unicode_utf8_first, by kernel_rfl⟩) fits1
end Go.Proofs.YtoemahhpheobkaaGreatDoor
