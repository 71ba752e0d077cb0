/- The contracts of the reference's IsLetter and IsName. Condition: the text's length is an int's. -/
import Derived.Test.YthnlaigabefidaaDoorTrP
import Derived.Test.YthnlaigabefidaaDoorProg
import Derived.Lib.Strings
import Derived.Test.YthnlaigabefidaaDoorB
import Derived.WalkLawsBesides
import Derived.Lib.Hide
import Derived.WideShapes
namespace Go.Proofs.YthnlaigabefidaaDoor
open Go.RowKit

theorem letter_iff (c : UInt8) : letterB c = true ↔ c.toNat = 45 ∨ c.toNat = 46 ∨ (48 ≤ c.toNat ∧ c.toNat ≤ 57) ∨ (97 ≤ c.toNat ∧ c.toNat ≤ 122) := by
  unfold letterB
  simp only [Bool.or_eq_true, Bool.and_eq_true, decide_eq_true_eq, beq_iff_eq, UInt8.le_iff_toNat_le, ← UInt8.toNat_inj]
  have e : ∀ n : Nat, n < 256 → (UInt8.ofNat n).toNat = n := fun n h => by simp; omega
  constructor
  · rintro (((h | h) | h) | h)
    · exact .inr (.inr (.inr h))
    · exact .inr (.inr (.inl h))
    · exact .inr (.inl h)
    · exact .inl h
  · rintro (h | h | h | h)
    · exact .inr h
    · exact .inl (.inr h)
    · exact .inl (.inl (.inr h))
    · exact .inl (.inl (.inl h))
theorem ret_bool {a b : Bool} (h : a = b) : Ending.returned (.bool a) = .returned (.bool b) := by rw [h]
theorem name_parts (s : ByteArray) : isName s = (s.data.toList.all letterB && (decide (1 ≤ s.size) && (decide (s.size ≤ 12) && ((!(s.toList == [46])) && !(s.toList == [46, 46]))))) := by
  unfold isName
  rw [Lib.toList_data]
  have e1 : (decide (s.data.toList = [46])) = (s.data.toList == [46]) := by rw [Bool.eq_iff_iff]; simp
  have e2 : (decide (s.data.toList = [46, 46])) = (s.data.toList == [46, 46]) := by rw [Bool.eq_iff_iff]; simp
  rw [e1, e2]
  simp only [Bool.and_assoc]

end Go.Proofs.YthnlaigabefidaaDoor
