/- The contracts of the document's Byte and Decimal. Condition: the number is small. -/
import Derived.Test.YtoaedkinlnkkhaaGreatDoorSl
import Derived.Lib.ItoaNum
import Derived.Lib.ItoaMem
import Derived.Lib.ItoaLen
import Derived.Lib.ConvBytes
import Derived.Laws.IdiomStrings
import Derived.WideShapes
namespace Go.Proofs.YtoaedkinlnkkhaaGreatDoor
open Go.RowKit

set_option maxRecDepth 100000 in
theorem byte_any (n : Nat) (m : Int) (c : UInt8) (w : World) (hm : m = (n : Int)) (hcn : UInt8.ofNat n = c) (hn : n < 256) : Calls Tryz.prog 104 #[.int .i64 m] w fun e w' => e = .returned (.string ⟨#[c]⟩) ∧ Below w.heap.size w w' := by
  subst hm
  have q1 : (0 : Int) ≤ (n : Int) := by omega
  have q2 : (n : Int) < 256 := by omega
  have hb := Blk.new w [.int .u8 (n : Int)] 5
  have hc0 := hb.cell (i := 0) (v := .int .u8 (n : Int)) rfl
  have hu : (c.toNat : Int) = (n : Int) := by rw [← hcn]; simp; omega
  have kb : (convert 82 9 (.slice (some ⟨w.heap.size, 0, none⟩) 1 1)).run Tryz.prog (w.alloc (.cells #[.int .u8 (n : Int)] 5)) = .ok (.string ⟨#[c]⟩) (w.alloc (.cells #[.int .u8 (n : Int)] 5)) := run_convert_bytes_back (P := Tryz.prog) (w.alloc (.cells [.int .u8 (n : Int)].toArray 5)) 82 9 5 ⟨w.heap.size, 0, none⟩ 1 [c] Tryz.underlying82 Tryz.underlying5 Tryz.underlying9 (by
    intro j hj
    obtain rfl : j = 0 := by simp at hj; omega
    have ea : (⟨w.heap.size, 0, none⟩ : Addr).add 0 = ⟨w.heap.size, 0, none⟩ := rfl
    rw [ea, hc0]
    simp only [List.getElem_cons_zero, hu])
  have hbl : Below w.heap.size w (w.alloc (.cells [.int .u8 (n : Int)].toArray 5)) := (Below.refl _ w).alloc (Nat.le_refl _) _
  have HBL := hidd hbl
  clear hb hc0 hu hbl hcn
  go_enter Tryz.func104, Tryz.ntmps104
  go_wp2_with fail
  go_ret
  exact ⟨rfl, HBL.out⟩

set_option maxRecDepth 100000 in
set_option maxHeartbeats 1000000 in
theorem below_any (n : Nat) : ∀ (m : Int) (w : World), m = -(n : Int) → n < 1000000000000 → Calls Tryz.prog 85 #[.int .i64 m] w fun e w' => e = .returned (.string ⟨(Lib.decDigits n).toArray⟩) ∧ Below w.heap.size w w' := by
  induction n using Nat.strongRecOn with
  | _ n ih =>
    intro m w hm hn
    by_cases h10 : n < 10
    · have z : decide ((-10 : Int) < m) = true := by simp; omega
      obtain ⟨c, hc⟩ : ∃ c, UInt8.ofNat (48 + n) = c := ⟨_, rfl⟩
      have HD : Hid (Lib.decDigits n = [c]) := hidd (by rw [← hc]; exact Lib.decDigits_one h10)
      have HC := hidd hc
      have q1 : m ≤ 0 := by omega
      have q2 : -10 < m := by omega
      have HM := hidd hm
      clear ih hm hc
      go_enter Tryz.func85, Tryz.ntmps85
      go_wp2_with fail
      refine (byte_any (48 + n) _ c _ (by have := HM.out; omega) HC.out (by omega)).mono ?_
      rintro e w1 ⟨rfl, hb1⟩
      go_wp2_with fail
      go_ret
      exact ⟨by rw [HD.out]; rfl, hb1⟩
    · have z : decide ((-10 : Int) < m) = false := by simp; omega
      have HD : Hid (Lib.decDigits n = Lib.decDigits (n / 10) ++ [UInt8.ofNat (48 + n % 10)]) := hidd (by conv => lhs; rw [Lib.decDigits, dif_neg h10])
      have e1 : m.tdiv 10 = -((n / 10 : Nat) : Int) := by subst hm; rw [Int.neg_tdiv, Int.ofNat_tdiv]; rfl
      have e2 : m.tmod 10 = -((n % 10 : Nat) : Int) := by subst hm; rw [Int.neg_tmod, Int.tmod_eq_emod_of_nonneg (by omega)]; omega
      have HI := hidd (ih (n / 10) (by omega))
      have q1 : m ≤ 0 := by omega
      have q2 : -1000000000000 < m := by omega
      have h9 : n % 10 < 10 := Nat.mod_lt _ (by omega)
      have hnd := Lib.itoa_length_le ((n / 10 : Nat) : Int) (by omega) (by omega)
      rw [Lib.itoa_nonneg] at hnd
      obtain ⟨X, hX⟩ : ∃ X : ByteArray, (⟨(Lib.decDigits (n / 10)).toArray⟩ : ByteArray) = X := ⟨_, rfl⟩
      have hXs : X.size ≤ 100 := by
        rw [← hX]
        have : (⟨(Lib.decDigits (n / 10)).toArray⟩ : ByteArray).size = (Lib.decDigits (n / 10)).length := by simp [ByteArray.size]
        rw [this]; omega
      obtain ⟨c, hc⟩ : ∃ c, UInt8.ofNat (48 + n % 10) = c := ⟨_, rfl⟩
      have HD2 : Hid (X ++ ⟨#[c]⟩ = (⟨(Lib.decDigits n).toArray⟩ : ByteArray)) := hidd (Go.WideShapes.bytes_inj (by rw [HD.out, ← hX, ← hc]; simp))
      have HX := hidd hX
      have HC := hidd hc
      have q3 : m.tmod 10 ≤ 0 := by omega
      have q4 : -10 < m.tmod 10 := by omega
      have E1 := hidd e1
      have E2 := hidd e2
      clear ih hm hnd hX hc e1 e2
      go_enter Tryz.func85, Tryz.ntmps85
      go_wp2_with fail
      refine (HI.out _ _ E1.out (by omega)).mono ?_
      rintro e w1 ⟨rfl, hb1⟩
      rw [HX.out]
      go_wp2_with fail
      refine (byte_any (48 + n % 10) _ c _ (by have := E2.out; omega) HC.out (by omega)).mono ?_
      rintro e w2 ⟨rfl, hb2⟩
      go_wp2_with fail
      go_ret
      exact ⟨by rw [← HD2.out]; rfl, hb1.trans (hb2.mono hb1.size)⟩

set_option maxRecDepth 100000 in
/-- Decimal of a number that is not below 0. -/
theorem decimal_any (n : Nat) (w : World) (hn : n < 1000000000000) : Calls Tryz.prog 59 #[.int .i64 (n : Int)] w fun e w' => e = .returned (.string ⟨(Lib.decDigits n).toArray⟩) ∧ Below w.heap.size w w' := by
  have z : decide ((n : Int) < 0) = false := by simp
  have q1 : (0 : Int) ≤ (n : Int) := by omega
  obtain ⟨X, hX⟩ : ∃ X : ByteArray, (⟨(Lib.decDigits n).toArray⟩ : ByteArray) = X := ⟨_, rfl⟩
  have HX := hidd hX
  rw [hX]
  clear hX
  go_enter Tryz.func59, Tryz.ntmps59
  go_wp2_with fail
  refine (below_any n _ _ rfl hn).mono ?_
  rintro e w1 ⟨rfl, hb1⟩
  rw [HX.out]
  go_wp2_with fail
  go_ret
  exact ⟨rfl, hb1⟩
end Go.Proofs.YtoaedkinlnkkhaaGreatDoor
