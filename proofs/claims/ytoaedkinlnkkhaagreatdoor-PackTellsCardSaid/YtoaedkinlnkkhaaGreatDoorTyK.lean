/- What the cards of the trees' statements share: the listed variables, a tree by value, the witness's world. No condition. -/
import Derived.Test.YtoaedkinlnkkhaaGreatDoorTrX
import Derived.Test.YtoaedkinlnkkhaaGreatDoorTrC
import Derived.Test.YtoaedkinlnkkhaaGreatDoorFrame
import Derived.Test.YtoaedkinlnkkhaaGreatDoorHs
import Derived.Test.YtoaedkinlnkkhaaGreatDoorTie
import Derived.Test.YtoaedkinlnkkhaaGreatDoorCards
import Derived.SevenTiedAt
import Derived.LaidSub
import Derived.Lay
import Derived.Lib.LaidIn
namespace Go.Proofs.YtoaedkinlnkkhaaGreatDoor
open Go.ChangeShapes Go.WideShapes Go.ChangeAt Go.RowKit Go.Deep

set_option maxRecDepth 100000 in
/-- A tree by value. -/
theorem node_arg {H : Type} {enc : TypeId × Value → H} {W : World} {base b0 : Nat} {spare : Nat → Bool} {held : Bool} {v : Value} {d : DataW H} {p : List MemPlace} (hv : Value.okWide Tryz.prog W .any b0 24 v)
    (h : DataW.Trod enc Tryz.prog W base spare held 24 v d p) (hw : ∀ n ∈ d.weights Tryz.prog 24, n ≤ reachBytes) : ∃ t : Lt, v = nval t ∧ t.Ok W := by
  obtain ⟨cs, rfl, -⟩ := okWide_struct Tryz.underlying24 hv
  obtain ⟨fuel, hf⟩ := h
  obtain ⟨t, ht, hok⟩ := node_of _ (Nat.le_refl _) hf hw
  refine ⟨t, ?_, hok⟩
  have e : cs.toList = ncells t := ht
  unfold nval
  congr 1
  apply Array.ext'
  rw [e]; rfl

/-- The witness's world: the door's, and the pinned table laid behind it. -/
noncomputable def tsW (os : Os) : World := (World.doorLaid Tryz.prog 400 os).layVars Tryz.prog [("unicode/utf8.first", Rows.laid_unicode_utf8_first)]
theorem tsW_os (os : Os) : (tsW os).os = os := (World.layVars_os _ _ _).trans rfl
/-- The blocks of the others. -/
noncomputable def tsB (os : Os) : List Nat := (List.range (World.doorLaid Tryz.prog 400 os).heap.size).filter (· != 20)

/-- The listed variables of the trees' statements. -/
def trLaid : List (String × DataW Unit) := ("unicode/utf8.acceptRanges", Rows.laid_unicode_utf8_acceptRanges) :: ("errors.errorType", hndD) :: ((sentL.map fun x => (x.1, sentD x.2.2)) ++ [("unicode/utf8.first", Rows.laid_unicode_utf8_first)])
set_option maxRecDepth 100000 in
theorem env_of_tr {W : World} (h : laidMetH Tryz.prog trLaid W) : Hnd W ∧ ∃ E, Env codeGs W.heap.size W E := by
  have h' : laidMet Tryz.prog (("unicode/utf8.acceptRanges", Rows.laid_unicode_utf8_acceptRanges) :: ((sentL.map fun x => (x.1, sentD x.2.2)) ++ [("unicode/utf8.first", Rows.laid_unicode_utf8_first)])) W ∧ handlesMet Tryz.prog [("errors.errorType", hndD)] W := h
  have h2 := h'.1.filter (fun x => (sentL.map (·.1)).contains x.1)
  have e2 : (("unicode/utf8.acceptRanges", Rows.laid_unicode_utf8_acceptRanges) :: ((sentL.map fun x => (x.1, sentD x.2.2)) ++ [("unicode/utf8.first", Rows.laid_unicode_utf8_first)])).filter (fun x => (sentL.map (·.1)).contains x.1) = sentL.map fun x => (x.1, sentD x.2.2) := by kernel_rfl
  rw [e2] at h2
  exact ⟨hnd_of_met h'.2, env_of_laid sentL sentL_ok (by decide) h2⟩
set_option maxRecDepth 100000 in
theorem ts_met (os : Os) (args : Array Value) : laidMet Tryz.prog (trLaid.filter fun x => x.2.handleName?.isNone) ((tsW os).forCall (fun _ _ => 0) ⟨#[], args, []⟩).memory :=
  laidMet_layVars (w0 := World.doorLaid Tryz.prog 400 os) ["unicode/utf8.first"] (tsB os) rfl (by kernel_rfl) (by kernel_rfl) (LaidIn.of_run (tsB os) 8 (by kernel_rfl) (by kernel_rfl) (by kernel_rfl) (by kernel_rfl))
set_option maxRecDepth 100000 in
theorem ts_door (os : Os) (args : Array Value) : laidMetH Tryz.prog trLaid ((tsW os).forCall (fun _ _ => 0) ⟨#[], args, []⟩).memory :=
  laidMetH_of_parts3 (fuel := 8) (ts_met os args) (by kernel_rfl) (by kernel_rfl)
end Go.Proofs.YtoaedkinlnkkhaaGreatDoor
