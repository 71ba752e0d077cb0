/- Plain law of the checks of a Give: the number after j rounds of the inner check. No condition. -/
import Derived.Test.YtgckmlafpmnekaaDoorSp5
namespace Go.Proofs.YtgckmlafpmnekaaDoor
open Go.RowKit

/-- The number in round k after j rounds of the inner check: 6 where the place is free or the number was met before. -/
def e6 (us : List Bool) (l : List Int) (k j : Nat) : Int := if us.getD (l.getD k 0).toNat false = false ∨ l.getD k 0 ∈ l.take j then 6 else 0
theorem e6_start (us : List Bool) (l : List Int) (k : Nat) : e6 us l k 0 = if us.getD (l.getD k 0).toNat false = false then 6 else 0 := by simp [e6]
theorem e6_hit {us : List Bool} {l : List Int} {k j : Nat} (hj : j < l.length) (h : l[j] = l.getD k 0) : e6 us l k (j + 1) = 6 := by
  unfold e6
  rw [List.take_succ_eq_append_getElem hj, if_pos]
  exact .inr (by rw [h]; simp)
theorem e6_miss {us : List Bool} {l : List Int} {k j : Nat} (hj : j < l.length) (h : l[j] ≠ l.getD k 0) : e6 us l k (j + 1) = e6 us l k j := by
  have h1 : l.getD k 0 ∈ l.take (j + 1) ↔ l.getD k 0 ∈ l.take j := by
    rw [List.take_succ_eq_append_getElem hj, List.mem_append, List.mem_singleton]
    exact ⟨fun e => e.resolve_right (fun e => h e.symm), .inl⟩
  unfold e6
  simp only [h1]
theorem e6_end {us : List Bool} {l : List Int} {k : Nat} : e6 us l k k = 0 ↔ us.getD (l.getD k 0).toNat false = true ∧ l.getD k 0 ∉ l.take k := by
  unfold e6
  cases us.getD (l.getD k 0).toNat false <;> by_cases h : l.getD k 0 ∈ l.take k <;> simp only [h] <;> simp
end Go.Proofs.YtgckmlafpmnekaaDoor
