/- The contracts of the document's headOf, bytes and node. Condition: the reading is there. -/
import Derived.Test.YtoaedkinlnkkhaaDoorPk2
namespace Go.Proofs.YtoaedkinlnkkhaaDoor
open Go.RowKit
theorem numP_nocolon {l : List UInt8} (h : ∀ c ∈ l.take 7, c ≠ 58) : numP l = none := by
  rcases cut_cases (l.take 7) with hc | ⟨d, r, hb, hc⟩
  · exact numP_none (D := l.take 7) (R := []) (is := false) (by rw [hc]) (.inl rfl)
  · exact absurd rfl (h 58 (by rw [hb]; simp))
theorem numP_colon {l D r : List UInt8} (hl : l = D ++ 58 :: r) (hd : ∀ c ∈ D, c ≠ 58) (h7 : D.length < 7) : numP l = if 0 ≤ numOf 6 D then some ((numOf 6 D).toNat, r) else none := by
  have ht : l.take 7 = D ++ 58 :: r.take (6 - D.length) := by
    rw [hl, List.take_append, List.take_of_length_le (by omega), show 7 - D.length = 6 - D.length + 1 by omega, List.take_succ_cons]
  have hc : Lib.cut (l.take 7) [58] = (D, r.take (6 - D.length), true) := by rw [ht]; exact cut_colon D _ hd
  have hdr : l.drop (D.length + 1) = r := by
    rw [hl, ← List.drop_drop, List.drop_left]; rfl
  split
  · rename_i h
    rw [numP_some hc h, hdr]
  · rename_i h
    exact numP_none hc (.inr h)

end Go.Proofs.YtoaedkinlnkkhaaDoor
