/- What the cards of the dirs' statements share: the listed variables. No condition. -/
import Derived.Test.YtoemahhpheobkaaGreatDoorTyK
import Derived.Test.YtoemahhpheobkaaGreatDoorDi2
namespace Go.Proofs.YtoemahhpheobkaaGreatDoor
open Go.ChangeShapes Go.WideShapes Go.ChangeAt Go.RowKit Go.Deep

/-- The listed sentinels. -/
def diL : List (String × Nat × List UInt8) := [
  ("stillroom/api.ErrText", 8, [115, 116, 105, 108, 108, 114, 111, 111, 109, 58, 32, 116, 101, 120, 116]),
  ("stillroom/api.ErrBound", 4, [115, 116, 105, 108, 108, 114, 111, 111, 109, 58, 32, 98, 111, 117, 110, 100]),
  ("stillroom/api.ErrShape", 2, [115, 116, 105, 108, 108, 114, 111, 111, 109, 58, 32, 115, 104, 97, 112, 101]),
  ("stillroom/api.ErrKind", 7, [115, 116, 105, 108, 108, 114, 111, 111, 109, 58, 32, 107, 105, 110, 100]),
  ("stillroom/api.ErrName", 5, [115, 116, 105, 108, 108, 114, 111, 111, 109, 58, 32, 110, 97, 109, 101]),
  ("stillroom/api.ErrNone", 1, [115, 116, 105, 108, 108, 114, 111, 111, 109, 58, 32, 110, 111, 110, 101]),
  ("stillroom/api.ErrFull", 0, [115, 116, 105, 108, 108, 114, 111, 111, 109, 58, 32, 102, 117, 108, 108]),
  ("stillroom/api.ErrDeep", 6, [115, 116, 105, 108, 108, 114, 111, 111, 109, 58, 32, 100, 101, 101, 112]),
  ("stillroom/api.ErrOrder", 9, [115, 116, 105, 108, 108, 114, 111, 111, 109, 58, 32, 111, 114, 100, 101, 114]),
  ("stillroom/api.ErrSum", 3, [115, 116, 105, 108, 108, 114, 111, 111, 109, 58, 32, 115, 117, 109])]
set_option maxRecDepth 100000 in
theorem diL_ok : ∀ x ∈ diL, Tryz.prog.globalNamed x.1 = some x.2.1 ∧ (Tryz.prog.globals[x.2.1]?).map (·.type) = some 36 := by
  intro x hx
  simp only [diL, List.mem_cons, List.not_mem_nil, or_false] at hx
  rcases hx with rfl | rfl | rfl | rfl | rfl | rfl | rfl | rfl | rfl | rfl <;> exact ⟨by kernel_rfl, by kernel_rfl⟩
def diLaid : List (String × DataW Unit) := ("unicode/utf8.acceptRanges", Rows.laid_unicode_utf8_acceptRanges) :: ((diL.map fun x => (x.1, sentD x.2.2)) ++ [("unicode/utf8.first", Rows.laid_unicode_utf8_first)])
set_option maxRecDepth 100000 in
theorem env_of_di {W : World} (h : laidMetH Tryz.prog diLaid W) : ∃ E, Env diGs W.heap.size W E := by
  have h' : laidMet Tryz.prog diLaid W := h
  have h2 := h'.filter (fun x => (diL.map (·.1)).contains x.1)
  have e2 : diLaid.filter (fun x => (diL.map (·.1)).contains x.1) = diL.map fun x => (x.1, sentD x.2.2) := by kernel_rfl
  rw [e2] at h2
  exact env_of_laid diL diL_ok (by decide) h2
set_option maxRecDepth 100000 in
theorem di_met (os : Os) (args : Array Value) : laidMet Tryz.prog (diLaid.filter fun x => x.2.handleName?.isNone) ((tsW os).forCall (fun _ _ => 0) ⟨#[], args, []⟩).memory :=
  laidMet_layVars (w0 := World.doorLaid Tryz.prog 400 os) ["unicode/utf8.first"] (tsB os) rfl (by kernel_rfl) (by kernel_rfl) (LaidIn.of_run (tsB os) 8 (by kernel_rfl) (by kernel_rfl) (by kernel_rfl) (by kernel_rfl))
set_option maxRecDepth 100000 in
theorem di_door (os : Os) (args : Array Value) : laidMetH Tryz.prog diLaid ((tsW os).forCall (fun _ _ => 0) ⟨#[], args, []⟩).memory :=
  laidMetH_of_parts3 (fuel := 8) (di_met os args) (by kernel_rfl) (by kernel_rfl)

end Go.Proofs.YtoemahhpheobkaaGreatDoor
