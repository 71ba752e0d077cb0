/- What the card of DiffBack lists: ten sentinels and two tables. No condition. -/
import Derived.Test.YtoaedkinlnkkhaaDoorTyK
import Derived.Test.YtoaedkinlnkkhaaDoorTrC
namespace Go.Proofs.YtoaedkinlnkkhaaDoor
open Go.ChangeShapes Go.WideShapes Go.ChangeAt Go.RowKit Go.Deep

/-- The listed sentinels. -/
def dbL : List (String × Nat × List UInt8) := [
  ("stillroom/api.ErrText", 2, [115, 116, 105, 108, 108, 114, 111, 111, 109, 58, 32, 116, 101, 120, 116]),
  ("stillroom/api.ErrBound", 1, [115, 116, 105, 108, 108, 114, 111, 111, 109, 58, 32, 98, 111, 117, 110, 100]),
  ("stillroom/api.ErrShape", 4, [115, 116, 105, 108, 108, 114, 111, 111, 109, 58, 32, 115, 104, 97, 112, 101]),
  ("stillroom/api.ErrKind", 5, [115, 116, 105, 108, 108, 114, 111, 111, 109, 58, 32, 107, 105, 110, 100]),
  ("stillroom/api.ErrName", 8, [115, 116, 105, 108, 108, 114, 111, 111, 109, 58, 32, 110, 97, 109, 101]),
  ("stillroom/api.ErrNone", 0, [115, 116, 105, 108, 108, 114, 111, 111, 109, 58, 32, 110, 111, 110, 101]),
  ("stillroom/api.ErrExist", 3, [115, 116, 105, 108, 108, 114, 111, 111, 109, 58, 32, 101, 120, 105, 115, 116]),
  ("stillroom/api.ErrFull", 7, [115, 116, 105, 108, 108, 114, 111, 111, 109, 58, 32, 102, 117, 108, 108]),
  ("stillroom/api.ErrDeep", 6, [115, 116, 105, 108, 108, 114, 111, 111, 109, 58, 32, 100, 101, 101, 112]),
  ("stillroom/api.ErrOrder", 9, [115, 116, 105, 108, 108, 114, 111, 111, 109, 58, 32, 111, 114, 100, 101, 114])]
set_option maxRecDepth 100000 in
theorem dbL_ok : ∀ x ∈ dbL, Tryd.prog.globalNamed x.1 = some x.2.1 ∧ (Tryd.prog.globals[x.2.1]?).map (·.type) = some 30 := by
  intro x hx
  simp only [dbL, List.mem_cons, List.not_mem_nil, or_false] at hx
  rcases hx with rfl | rfl | rfl | rfl | rfl | rfl | rfl | rfl | rfl | rfl <;> exact ⟨by kernel_rfl, by kernel_rfl⟩
def dbLaid : List (String × DataW Unit) := ("unicode/utf8.acceptRanges", Rows.laid_unicode_utf8_acceptRanges) :: ((dbL.map fun x => (x.1, sentD x.2.2)) ++ [("unicode/utf8.first", Rows.laid_unicode_utf8_first)])
set_option maxRecDepth 100000 in
theorem env_of_db {W : World} (h : laidMetH Tryd.prog dbLaid W) : ∃ E, Env codeGs W.heap.size W E := by
  have h' : laidMet Tryd.prog dbLaid W := h
  have h2 := h'.filter (fun x => (dbL.map (·.1)).contains x.1)
  have e2 : dbLaid.filter (fun x => (dbL.map (·.1)).contains x.1) = dbL.map fun x => (x.1, sentD x.2.2) := by kernel_rfl
  rw [e2] at h2
  obtain ⟨E, h⟩ := env_of_laid dbL dbL_ok (by decide) h2
  exact ⟨E, h.sub (by decide)⟩
set_option maxRecDepth 100000 in
theorem db_met (os : Os) (args : Array Value) : laidMet Tryd.prog (dbLaid.filter fun x => x.2.handleName?.isNone) ((tsW os).forCall (fun _ _ => 0) ⟨#[], args, []⟩).memory :=
  laidMet_layVars (w0 := World.doorLaid Tryd.prog 400 os) ["unicode/utf8.first"] (tsB os) rfl (by kernel_rfl) (by kernel_rfl) (LaidIn.of_run (tsB os) 8 (by kernel_rfl) (by kernel_rfl) (by kernel_rfl) (by kernel_rfl))
set_option maxRecDepth 100000 in
theorem db_door (os : Os) (args : Array Value) : laidMetH Tryd.prog dbLaid ((tsW os).forCall (fun _ _ => 0) ⟨#[], args, []⟩).memory :=
  laidMetH_of_parts3 (fuel := 8) (db_met os args) (by kernel_rfl) (by kernel_rfl)

end Go.Proofs.YtoaedkinlnkkhaaDoor
