/- What the statement's condition on the listed variables gives the walks. No condition of its own. -/
import Derived.Test.YtcpilhembdphoaaGreatDoorCoded
import Derived.Test.YtcpilhembdphoaaGreatDoorRows
import Derived.ProofKit
import Derived.LaidMore
import Derived.OpenShut
import Derived.ChangeOld
import Derived.Stop.Joined
namespace Go.Proofs.YtcpilhembdphoaaGreatDoor
open Go.ChangeShapes Go.WideShapes Go.ChangeAt Go.RowKit

theorem ownK : ownKnob Tryz.prog.godebug = none := by kernel_rfl
theorem laidOutB' : laidOutB Tryz.prog = true := by kernel_rfl

/-- The listed sentinels: name, variable, text. -/
def sentL : List (String × Nat × List UInt8) := [
  ("stillroom/api.ErrText", 6, [115, 116, 105, 108, 108, 114, 111, 111, 109, 58, 32, 116, 101, 120, 116]),
  ("stillroom/api.ErrBound", 0, [115, 116, 105, 108, 108, 114, 111, 111, 109, 58, 32, 98, 111, 117, 110, 100]),
  ("stillroom/api.ErrShape", 3, [115, 116, 105, 108, 108, 114, 111, 111, 109, 58, 32, 115, 104, 97, 112, 101]),
  ("stillroom/api.ErrKind", 7, [115, 116, 105, 108, 108, 114, 111, 111, 109, 58, 32, 107, 105, 110, 100]),
  ("stillroom/api.ErrName", 8, [115, 116, 105, 108, 108, 114, 111, 111, 109, 58, 32, 110, 97, 109, 101]),
  ("stillroom/api.ErrNone", 1, [115, 116, 105, 108, 108, 114, 111, 111, 109, 58, 32, 110, 111, 110, 101]),
  ("stillroom/api.ErrExist", 4, [115, 116, 105, 108, 108, 114, 111, 111, 109, 58, 32, 101, 120, 105, 115, 116]),
  ("stillroom/api.ErrFull", 5, [115, 116, 105, 108, 108, 114, 111, 111, 109, 58, 32, 102, 117, 108, 108]),
  ("stillroom/api.ErrDeep", 9, [115, 116, 105, 108, 108, 114, 111, 111, 109, 58, 32, 100, 101, 101, 112]),
  ("stillroom/api.ErrOrder", 10, [115, 116, 105, 108, 108, 114, 111, 111, 109, 58, 32, 111, 114, 100, 101, 114]),
  ("stillroom/api.ErrSum", 2, [115, 116, 105, 108, 108, 114, 111, 111, 109, 58, 32, 115, 117, 109]),
  ("stillroom/api.ErrInUse", 11, [115, 116, 105, 108, 108, 114, 111, 111, 109, 58, 32, 105, 110, 32, 117, 115, 101]),
  ("stillroom/api.ErrOff", 12, [115, 116, 105, 108, 108, 114, 111, 111, 109, 58, 32, 111, 102, 102])]

set_option maxRecDepth 100000 in
theorem sentL_ok : ∀ x ∈ sentL, Tryz.prog.globalNamed x.1 = some x.2.1 ∧ (Tryz.prog.globals[x.2.1]?).map (·.type) = some 28 := by
  intro x hx
  simp only [sentL, List.mem_cons, List.not_mem_nil, or_false] at hx
  rcases hx with rfl | rfl | rfl | rfl | rfl | rfl | rfl | rfl | rfl | rfl | rfl | rfl | rfl <;> exact ⟨by kernel_rfl, by kernel_rfl⟩

theorem h_et : Tryz.prog.globalNamed "errors.errorType" = some 13 := by kernel_rfl
theorem h_rt : (Tryz.prog.cutTypes.find? (·.1 == "internal/reflectlite.rtype")).map (·.2) = some 166 := by kernel_rfl
theorem h_row : ((List.range 232).filter fun t => Tryz.prog.rowNamed t [101, 114, 114, 111, 114]) = [28] := by kernel_rfl
theorem h_size : Tryz.prog.types.size = 232 := by kernel_rfl

/-- The one listed variable that holds a type. -/
def hndD : DataW Unit := .iface "internal/reflectlite.rtype" (.agg [.ptr (.lit (.string [101, 114, 114, 111, 114]))])

theorem hnd_of_met {W : World} (h : handlesMet Tryz.prog [("errors.errorType", hndD)] W) : Hnd W := by
  obtain ⟨name, u, ty, e1, e2, e3, e4, e5⟩ := h _ (List.mem_singleton.2 rfl)
  have en : name = [101, 114, 114, 111, 114] := (Option.some.inj e1).symm
  subst en
  obtain rfl := Option.some.inj (h_rt.symm.trans e2)
  have hm : ty ∈ (List.range 232).filter fun t => Tryz.prog.rowNamed t [101, 114, 114, 111, 114] := List.mem_filter.2 ⟨List.mem_range.2 (by rw [← h_size]; exact e3), e4⟩
  rw [h_row] at hm
  obtain rfl := List.mem_singleton.1 hm
  have hh : typeHandle Tryz.prog 28 = .pointer (some ⟨15, 28, none⟩) := by kernel_rfl
  rw [hh] at e5
  unfold Hnd
  simpa using World.var?_cell h_et e5 0

/-- The listed variables of a statement that asks for error numbers. -/
def laidAll : List (String × DataW Unit) := ("errors.errorType", hndD) :: sentL.map fun x => (x.1, sentD x.2.2)

theorem env_of_all {W : World} (h : laidMetH Tryz.prog laidAll W) : Hnd W ∧ ∃ E, Env codeGs W.heap.size W E := by
  have h' : laidMet Tryz.prog (sentL.map fun x => (x.1, sentD x.2.2)) W ∧ handlesMet Tryz.prog [("errors.errorType", hndD)] W := h
  exact ⟨hnd_of_met h'.2, env_of_laid sentL sentL_ok (by decide) h'.1⟩

end Go.Proofs.YtcpilhembdphoaaGreatDoor
