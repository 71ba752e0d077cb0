/- The contracts of the reference's IsLetter and IsName. Condition: the text's length is an int's. -/
import Derived.Test.YtbadnmfmncjdjaaGreatDoorTrP
import Derived.Test.YtbadnmfmncjdjaaGreatDoorProg
import Derived.Lib.Strings
import Derived.Test.YtbadnmfmncjdjaaGreatDoorB
import Derived.WalkLawsBesides
import Derived.Lib.Hide
import Derived.WideShapes
namespace Go.Proofs.YtbadnmfmncjdjaaGreatDoor
open Go.RowKit

theorem letter_iff (c : UInt8) : letterB c = true ↔ c.toNat = 45 ∨ c.toNat = 46 ∨ (48 ≤ c.toNat ∧ c.toNat ≤ 57) ∨ (97 ≤ c.toNat ∧ c.toNat ≤ 122) := by
  unfold letterB
  simp only [Bool.or_eq_true, Bool.and_eq_true, decide_eq_true_eq, beq_iff_eq, UInt8.le_iff_toNat_le, ← UInt8.toNat_inj]
  have e : ∀ n : Nat, n < 256 → (UInt8.ofNat n).toNat = n := fun n h => by simp; omega
  constructor
  · rintro (((h | h) | h) | h)
    · exact .inr (.inr (.inr h))
    · exact .inr (.inr (.inl h))
    · exact .inr (.inl h)
    · exact .inl h
  · rintro (h | h | h | h)
    · exact .inr h
    · exact .inl (.inr h)
    · exact .inl (.inl (.inr h))
    · exact .inl (.inl (.inl h))
theorem ret_bool {a b : Bool} (h : a = b) : Ending.returned (.bool a) = .returned (.bool b) := by rw [h]
theorem name_parts (s : ByteArray) : isName s = (s.data.toList.all letterB && (decide (1 ≤ s.size) && (decide (s.size ≤ 12) && ((!(s.toList == [46])) && !(s.toList == [46, 46]))))) := by
  unfold isName
  rw [Lib.toList_data]
  have e1 : (decide (s.data.toList = [46])) = (s.data.toList == [46]) := by rw [Bool.eq_iff_iff]; simp
  have e2 : (decide (s.data.toList = [46, 46])) = (s.data.toList == [46, 46]) := by rw [Bool.eq_iff_iff]; simp
  rw [e1, e2]
  simp only [Bool.and_assoc]

def letN (n : Nat) : Bool := decide (n = 45 ∨ n = 46 ∨ (48 ≤ n ∧ n ≤ 57) ∨ (97 ≤ n ∧ n ≤ 122))
theorem letN_eq (c : UInt8) : letN c.toNat = letterB c := by
  rw [Bool.eq_iff_iff, letter_iff]; simp [letN]

theorem isLetter_any (n : Nat) (w : World) (hn : n < 256) :
    Calls Tryz.prog 77 #[.int .u8 (n : Int)] w fun e w' => e = .returned (.bool (letN n)) ∧ w = w' := by
  have H : ∀ b, letN n = b ↔ (decide (n = 45 ∨ n = 46 ∨ (48 ≤ n ∧ n ≤ 57) ∨ (97 ≤ n ∧ n ≤ 122))) = b := fun b => Iff.rfl
  by_cases e1 : n = 45
  · subst e1
    clear H
    go_enter Tryz.func77, Tryz.ntmps77
    go_wp2
    go_ret
    exact ⟨rfl, rfl⟩
  by_cases e2 : n = 46
  · subst e2
    clear H
    go_enter Tryz.func77, Tryz.ntmps77
    go_wp2
    go_ret
    exact ⟨rfl, rfl⟩
  have q1 : ((n : Int) == 46) = false := by simp; omega
  have q2 : ((n : Int) == 45) = false := by simp; omega
  rcases (by omega : n < 48 ∨ (48 ≤ n ∧ n ≤ 57) ∨ (58 ≤ n ∧ n ≤ 96) ∨ (97 ≤ n ∧ n ≤ 122) ∨ 123 ≤ n) with h | ⟨h, h'⟩ | ⟨h, h'⟩ | ⟨h, h'⟩ | h
  · have HB : Hid (letN n = false) := hidd ((H _).2 (by simp; omega))
    have d1 : decide ((97 : Int) ≤ (n : Int)) = false := decide_eq_false (by omega)
    have d2 : decide ((48 : Int) ≤ (n : Int)) = false := decide_eq_false (by omega)
    clear H e1 e2
    go_enter Tryz.func77, Tryz.ntmps77
    go_wp2
    go_ret
    exact ⟨ret_bool (by rw [HB.out]), rfl⟩
  · have HB : Hid (letN n = true) := hidd ((H _).2 (by simp; omega))
    have d1 : decide ((97 : Int) ≤ (n : Int)) = false := decide_eq_false (by omega)
    have d2 : decide ((48 : Int) ≤ (n : Int)) = true := decide_eq_true (by omega)
    have d3 : decide ((n : Int) ≤ 57) = true := decide_eq_true (by omega)
    clear H e1 e2
    go_enter Tryz.func77, Tryz.ntmps77
    go_wp2
    go_ret
    exact ⟨ret_bool (by rw [HB.out]), rfl⟩
  · have HB : Hid (letN n = false) := hidd ((H _).2 (by simp; omega))
    have d1 : decide ((97 : Int) ≤ (n : Int)) = false := decide_eq_false (by omega)
    have d2 : decide ((48 : Int) ≤ (n : Int)) = true := decide_eq_true (by omega)
    have d3 : decide ((n : Int) ≤ 57) = false := decide_eq_false (by omega)
    clear H e1 e2
    go_enter Tryz.func77, Tryz.ntmps77
    go_wp2
    go_ret
    exact ⟨ret_bool (by rw [HB.out]), rfl⟩
  · have HB : Hid (letN n = true) := hidd ((H _).2 (by simp; omega))
    have d1 : decide ((97 : Int) ≤ (n : Int)) = true := decide_eq_true (by omega)
    have d4 : decide ((n : Int) ≤ 122) = true := decide_eq_true (by omega)
    have d2 : decide ((48 : Int) ≤ (n : Int)) = true := decide_eq_true (by omega)
    have d3 : decide ((n : Int) ≤ 57) = false := decide_eq_false (by omega)
    clear H e1 e2
    go_enter Tryz.func77, Tryz.ntmps77
    go_wp2
    go_ret
    exact ⟨ret_bool (by rw [HB.out]), rfl⟩
  · have HB : Hid (letN n = false) := hidd ((H _).2 (by simp; omega))
    have d1 : decide ((97 : Int) ≤ (n : Int)) = true := decide_eq_true (by omega)
    have d4 : decide ((n : Int) ≤ 122) = false := decide_eq_false (by omega)
    have d2 : decide ((48 : Int) ≤ (n : Int)) = true := decide_eq_true (by omega)
    have d3 : decide ((n : Int) ≤ 57) = false := decide_eq_false (by omega)
    clear H e1 e2
    go_enter Tryz.func77, Tryz.ntmps77
    go_wp2
    go_ret
    exact ⟨ret_bool (by rw [HB.out]), rfl⟩

set_option maxRecDepth 100000 in
set_option maxHeartbeats 2000000 in
theorem isName_any (s : ByteArray) (w : World) (hs : s.size ≤ 9223372036854775807) :
    Calls Tryz.prog 55 #[.string s] w fun e w' => e = .returned (.bool (isName s)) ∧ w = w' := by
  have hsz : s.data.toList.length = s.size := by simp
  have HP := hidd (name_parts s)
  go_enter Tryz.func55, Tryz.ntmps55
  go_wp2_with fail
  go_loop [3] (fun i => ∃ k : Nat, k ≤ s.size ∧ i = .int .i64 (k : Int) ∧ ∀ c ∈ s.data.toList.take k, letterB c = true) (fun i => s.size - (intOf i).toNat)
  case atStart => exact ⟨0, by omega, rfl, by simp⟩
  case round =>
    obtain ⟨k, hk, rfl, hall⟩ := hrel
    by_cases hlt : k < s.size
    · have hts : s.data.toList.take (k + 1) = s.data.toList.take k ++ [s[k]] := by
        rw [List.take_succ_eq_append_getElem (by omega)]; rfl
      have hmem : s[k] ∈ s.data.toList := by
        have : s.data.toList[k]'(by omega) ∈ s.data.toList := List.getElem_mem _
        exact this
      have hyb := s[k].toNat_lt
      have q1 : (0 : Int) ≤ (k : Int) := by omega
      have q2 : (k : Int) < (s.size : Int) := by omega
      have hle := letN_eq s[k]
      obtain ⟨y, hy⟩ : ∃ y, s[k] = y := ⟨_, rfl⟩
      have e1 : (s[k].toNat : Int) = (y.toNat : Int) := by rw [hy]
      rw [hy] at hts hmem hyb hle
      cases hl : letterB y
      · have HB : Hid (isName s = false) := hidd (by
          rw [name_parts, List.all_eq_false.2 ⟨y, hmem, by simp [hl]⟩, Bool.false_and])
        rw [hl] at hle
        have HL := hidd hle
        clear hall hts hmem hy hsz hl hle
        go_wp2_with fail
        refine (isLetter_any y.toNat _ hyb).mono ?_
        rintro e w' ⟨rfl, rfl⟩
        rw [HL.out]
        go_wp2_with fail
        go_ret
        exact ⟨ret_bool (by rw [HB.out]), rfl⟩
      · have hall' : ∀ c ∈ s.data.toList.take (k + 1), letterB c = true := fun c hc => by
          rw [hts] at hc
          rcases List.mem_append.1 hc with h | h
          · exact hall c h
          · simp at h; subst h; exact hl
        have HA := hidd hall'
        rw [hl] at hle
        have HL := hidd hle
        clear hall hall' hts hmem hy hsz hl hle
        go_wp2_with fail
        refine (isLetter_any y.toNat _ hyb).mono ?_
        rintro e w' ⟨rfl, rfl⟩
        rw [HL.out]
        go_wp2_with fail
        go_round
        case rel => exact ⟨k + 1, by omega, by go_num, HA.out⟩
        case measure => simp [intOf]; omega
    · obtain rfl : k = s.size := by omega
      rw [List.take_of_length_le (by omega)] at hall
      have hal : s.data.toList.all letterB = true := List.all_eq_true.2 hall
      have HA := hidd hal
      clear hall hal hsz
      by_cases h1 : s.size < 1
      · have d1 : decide ((1 : Int) ≤ (s.size : Int)) = false := decide_eq_false (by omega)
        have d1' : decide (1 ≤ s.size) = false := decide_eq_false (by omega)
        have HB : Hid (isName s = false) := hidd (by rw [name_parts, d1', Bool.false_and, Bool.and_false])
        go_wp2_with fail
        go_ret
        exact ⟨ret_bool (by rw [HB.out]), rfl⟩
      have d1 : decide ((1 : Int) ≤ (s.size : Int)) = true := decide_eq_true (by omega)
      have d1' : decide (1 ≤ s.size) = true := decide_eq_true (by omega)
      by_cases h2 : 12 < s.size
      · have d2 : decide ((s.size : Int) ≤ 12) = false := decide_eq_false (by omega)
        have d2' : decide (s.size ≤ 12) = false := decide_eq_false (by omega)
        have HB : Hid (isName s = false) := hidd (by rw [name_parts, d1', d2', Bool.false_and, Bool.and_false, Bool.and_false])
        go_wp2_with fail
        go_ret
        exact ⟨ret_bool (by rw [HB.out]), rfl⟩
      have d2 : decide ((s.size : Int) ≤ 12) = true := decide_eq_true (by omega)
      have d2' : decide (s.size ≤ 12) = true := decide_eq_true (by omega)
      have HB0 : Hid (isName s = ((!(s.toList == [46])) && !(s.toList == [46, 46]))) := hidd (by rw [name_parts, d1', d2', HA.out, Bool.true_and, Bool.true_and, Bool.true_and])
      cases h3 : s.toList == [46]
      · have h3' : (s.toList != [46]) = true := by simpa using h3
        cases h4 : s.toList == [46, 46]
        · have h4' : (s.toList != [46, 46]) = true := by simpa using h4
          have HB : Hid (isName s = true) := hidd (by rw [HB0.out, h3, h4]; rfl)
          go_wp2_with fail
          go_ret
          exact ⟨ret_bool (by rw [HB.out]), rfl⟩
        · have h4' : (s.toList != [46, 46]) = false := by simpa using h4
          have HB : Hid (isName s = false) := hidd (by rw [HB0.out, h3, h4]; rfl)
          go_wp2_with fail
          go_ret
          exact ⟨ret_bool (by rw [HB.out]), rfl⟩
      · have h3' : (s.toList != [46]) = false := by simpa using h3
        have HB : Hid (isName s = false) := hidd (by rw [HB0.out, h3]; rfl)
        go_wp2_with fail
        go_ret
        exact ⟨ret_bool (by rw [HB.out]), rfl⟩
end Go.Proofs.YtbadnmfmncjdjaaGreatDoor
