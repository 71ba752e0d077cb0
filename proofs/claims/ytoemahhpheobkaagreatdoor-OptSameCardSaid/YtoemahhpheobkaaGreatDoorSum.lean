/- Plain law of the sum of a text: the shift register of the program and that of the document are one. No condition. · The contract of disk.Sum: the sum of a text. Condition: the text's size is one that a length can be. -/
import Derived.Test.YtoemahhpheobkaaGreatDoorB
import Derived.Test.YtoemahhpheobkaaGreatDoorProg
import Derived.Laws.BitsAll
import Derived.Laws.BitsAllLaws
import Derived.Laws.Cover2
namespace Go.Proofs.YtoemahhpheobkaaGreatDoor

/-- One step of the register. -/
def crcStep (c : Nat) : Nat := c / 2 ^^^ (if c % 2 = 1 then 3988292384 else 0)
/-- k steps. -/
def crcSteps : Nat → Nat → Nat
  | 0, c => c
  | k + 1, c => crcStep (crcSteps k c)
/-- The register behind a text's bytes. -/
def crcTo (l : List UInt8) : Nat := l.foldl (fun c b => crcSteps 8 (c ^^^ b.toNat)) 4294967295
def crc (l : List UInt8) : Nat := crcTo l ^^^ 4294967295

/-- The document's register. -/
def refSteps (b : Nat) : Nat → Nat → Nat
  | 0, c => c
  | k + 1, c => refSteps b k c / 2 ^^^ (if (refSteps b k c ^^^ b >>> k) % 2 = 1 then 3988292384 else 0)

theorem xor_div2 (a b : Nat) : (a ^^^ b) / 2 = a / 2 ^^^ b / 2 := by
  have := Nat.shiftRight_xor_distrib (a := a) (b := b) (i := 1)
  simpa [Nat.shiftRight_eq_div_pow] using this

theorem crcSteps_ref (b c : Nat) : ∀ k, crcSteps k (c ^^^ b) = refSteps b k c ^^^ b >>> k
  | 0 => rfl
  | k + 1 => by
    show crcStep (crcSteps k (c ^^^ b)) = _
    rw [crcSteps_ref b c k]
    unfold crcStep
    rw [xor_div2, Nat.shiftRight_succ]
    show _ = (refSteps b k c / 2 ^^^ (if (refSteps b k c ^^^ b >>> k) % 2 = 1 then 3988292384 else 0)) ^^^ (b >>> k / 2)
    rw [Nat.xor_assoc, Nat.xor_assoc, Nat.xor_comm (b >>> k / 2)]

theorem crcSteps_eight (b : UInt8) (c : Nat) : crcSteps 8 (c ^^^ b.toNat) = refSteps b.toNat 8 c := by
  rw [crcSteps_ref, Nat.shiftRight_eq_div_pow, Nat.div_eq_of_lt (by have := b.toNat_lt; omega), Nat.xor_zero]

theorem crcStep_lt {c : Nat} (h : c < 4294967296) : crcStep c < 4294967296 := by
  unfold crcStep
  exact Nat.xor_lt_two_pow (n := 32) (by omega) (by split <;> omega)
theorem crcSteps_lt {c : Nat} (h : c < 4294967296) : ∀ k, crcSteps k c < 4294967296
  | 0 => h
  | k + 1 => crcStep_lt (crcSteps_lt h k)
theorem refSteps_lt (b : Nat) {c : Nat} (h : c < 4294967296) : ∀ k, refSteps b k c < 4294967296
  | 0 => h
  | k + 1 => by
    have := refSteps_lt b h k
    exact Nat.xor_lt_two_pow (n := 32) (by omega) (by split <;> omega)
theorem crcTo_snoc (l : List UInt8) (b : UInt8) : crcTo (l ++ [b]) = crcSteps 8 (crcTo l ^^^ b.toNat) := by simp [crcTo]
theorem crcTo_lt (l : List UInt8) : crcTo l < 4294967296 := by
  unfold crcTo
  suffices h : ∀ (l : List UInt8) c, c < 4294967296 → l.foldl (fun c b => crcSteps 8 (c ^^^ b.toNat)) c < 4294967296 from h l _ (by omega)
  intro l
  induction l with
  | nil => intro c h; exact h
  | cons b l ih => intro c h; exact ih _ (crcSteps_lt (Nat.xor_lt_two_pow (n := 32) h (by have := b.toNat_lt; omega)) 8)
theorem crc_ex : crc [49, 50, 51, 52, 53, 54, 55, 56, 57] = 3421780262 := by decide +kernel
end Go.Proofs.YtoemahhpheobkaaGreatDoor

namespace Go.Proofs.YtoemahhpheobkaaGreatDoor
open Go.RowKit

set_option maxRecDepth 100000 in
theorem sum_any (s : ByteArray) (w : World) (hs : s.size ≤ maxLen) :
    Calls Tryz.prog 54 #[.string s] w fun e w' => e = .returned (.int .u32 (crc s.data.toList : Nat)) ∧ w = w' := by
  unfold maxLen at hs
  go_enter Tryz.func54, Tryz.ntmps54
  go_wp2_with fail
  go_loop [3, 7] (fun c i => ∃ k : Nat, k ≤ s.size ∧ i = .int .i64 (k : Int) ∧ c = .int .u32 (crcTo (s.data.toList.take k) : Nat)) (fun _ i => s.size - (intOf i).toNat)
  case atStart => exact ⟨0, by omega, rfl, rfl⟩
  case round =>
    obtain ⟨k, hk, rfl, rfl⟩ := hrel
    have hlt0 := crcTo_lt (s.data.toList.take k)
    by_cases hlt : k < s.size
    · have hts : s.data.toList.take (k + 1) = s.data.toList.take k ++ [s[k]] := by
        rw [List.take_succ_eq_append_getElem (by simpa using hlt)]; rfl
      have H1 : Hid (crcTo (s.data.toList.take (k + 1)) = crcSteps 8 (crcTo (s.data.toList.take k) ^^^ s[k].toNat)) := by rw [hts]; exact crcTo_snoc _ _
      have hb := s[k].toNat_lt
      clear hts
      have q1 : (0 : Int) ≤ (k : Int) := by omega
      have q2 : (k : Int) < (s.size : Int) := by omega
      generalize hC : crcTo (s.data.toList.take k) = C at *
      have HC := hidd hC
      clear hC
      have hx : bits .xor .u32 (C : Int) (s[k].toNat : Int) = ((C ^^^ s[k].toNat : Nat) : Int) := u32_xor_nat C _ hlt0 (by omega)
      go_wp2_with fail
      generalize hD : C ^^^ s[k].toNat = D at *
      have hDl : D < 4294967296 := by rw [← hD]; exact Nat.xor_lt_two_pow (n := 32) hlt0 (by omega)
      clear hD hx hlt0
      go_loop [3, 16] (fun c i => ∃ m : Nat, m ≤ 8 ∧ i = .int .i64 (m : Int) ∧ c = .int .u32 (crcSteps m D : Nat)) (fun _ i => 8 - (intOf i).toNat)
      case atStart => exact ⟨0, by omega, rfl, rfl⟩
      case round =>
        obtain ⟨m, hm, rfl, rfl⟩ := hrel
        by_cases hm8 : m < 8
        · have hl := crcSteps_lt hDl m
          have H2 : Hid (crcSteps (m + 1) D = crcStep (crcSteps m D)) := rfl
          generalize crcSteps m D = c at *
          have p1 : (m : Int) < 8 := by omega
          have p2 : (0 : Int) ≤ (c : Int) := by omega
          have p3 : (c : Int) < 4294967296 := by omega
          have hand : bits .and .u32 (c : Int) 1 = ((c % 2 : Nat) : Int) := by
            rw [← Nat.and_one_is_mod]; exact u32_and_nat c 1 hl (by omega)
          by_cases hc : c % 2 = 1
          · rw [hc] at hand
            have hx2 : bits .xor .u32 ((c : Int) / 2) 3988292384 = ((c / 2 ^^^ 3988292384 : Nat) : Int) := u32_xor_nat (c / 2) 3988292384 (by omega) (by omega)
            have HS : Hid (crcStep c = c / 2 ^^^ 3988292384) := by show crcStep c = _; unfold crcStep; rw [if_pos hc]
            clear hc
            go_wp2_with fail
            go_round
            case rel => exact ⟨m + 1, by omega, by go_num, by rw [H2.out, HS.out]⟩
            case measure => simp [intOf]; omega
          · have hc0 : c % 2 = 0 := by omega
            rw [hc0] at hand
            have hx2 : bits .xor .u32 ((c : Int) / 2) 0 = ((c / 2 ^^^ 0 : Nat) : Int) := u32_xor_nat (c / 2) 0 (by omega) (by omega)
            have HS : Hid (crcStep c = c / 2 ^^^ 0) := by show crcStep c = _; unfold crcStep; rw [if_neg hc]
            clear hc hc0
            go_wp2_with fail
            go_round
            case rel => exact ⟨m + 1, by omega, by go_num, by rw [H2.out, HS.out]; simp⟩
            case measure => simp [intOf]; omega
        · obtain rfl : m = 8 := by omega
          go_wp2_with fail
          go_round
          case rel => exact ⟨k + 1, by omega, by go_num, by rw [H1.out]⟩
          case measure => simp [intOf]; omega
    · obtain rfl : k = s.size := by omega
      have ht : s.data.toList.take s.size = s.data.toList := List.take_of_length_le (by simp)
      rw [ht] at hlt0 ⊢
      have HS : Hid (crc s.data.toList = crcTo s.data.toList ^^^ 4294967295) := rfl
      generalize crcTo s.data.toList = C at *
      have hx : bits .xor .u32 (C : Int) 4294967295 = ((C ^^^ 4294967295 : Nat) : Int) := u32_xor_nat C 4294967295 hlt0 (by omega)
      have hx2 : bits .xor .u32 4294967295 (C : Int) = ((C ^^^ 4294967295 : Nat) : Int) := by rw [show (4294967295 : Int) = ((4294967295 : Nat) : Int) from rfl, u32_xor_nat _ _ (by omega) hlt0, Nat.xor_comm]
      clear ht
      go_wp2_with fail
      go_ret
      rw [HS.out]
      refine ⟨?_, rfl⟩
      show Ending.returned (.int .u32 (bits .xor .u32 IntKind.u32.max (C : Int))) = _
      rw [show IntKind.u32.max = 4294967295 from rfl, hx2]
end Go.Proofs.YtoemahhpheobkaaGreatDoor
