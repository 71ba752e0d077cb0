/- The contract of the reference's turned. Condition: the bit lies in the text. -/
import Derived.Test.YtgckmlafpmnekaaDoorDr
namespace Go.Proofs.YtgckmlafpmnekaaDoor
open Go.RowKit

theorem xor_ofNat (y : UInt8) (n : Nat) : y ^^^ UInt8.ofNat n = UInt8.ofNat (y.toNat ^^^ n) := by
  apply UInt8.toNat.inj
  simp
theorem ofNat_toNat (y : UInt8) : UInt8.ofNat y.toNat = y := by simp

set_option maxRecDepth 100000 in
set_option maxHeartbeats 4000000 in
theorem rturned_any (s : ByteArray) (bit : Nat) (w : World) (hb : bit < 128) (hs : s.size = 16) :
    Calls Tryd.prog 86 #[.string s, .int .i64 (bit : Int)] w fun e w' => e = .returned (.string (turn s bit)) ∧ Below w.heap.size w w' := by
  obtain ⟨q, hq⟩ : ∃ q, bit / 8 = q := ⟨_, rfl⟩
  obtain ⟨r, hr⟩ : ∃ r, bit % 8 = r := ⟨_, rfl⟩
  have hqi : (bit : Int) / 8 = (q : Int) := by omega
  have hri : (bit : Int) % 8 = (r : Int) := by omega
  have hr8 : r < 8 := by omega
  have HQ := hidd hq
  have HR := hidd hr
  have HS := hidd hs
  have q1 : (0 : Int) ≤ (bit : Int) := by omega
  have q2 : (bit : Int) < 128 := by omega
  have hsz : s.size ≤ 16 := by omega
  clear hq hr hs
  go_enter Tryd.func86, Tryd.ntmps86
  go_wp2_with fail
  go_loopw [5, 6] (fun o i wr => ∃ k : Nat, k ≤ s.size ∧ i = .int .i64 (k : Int) ∧ o = .string (turnPre s bit k) ∧ Below w.heap.size w wr) (fun _ i _ => s.size - (intOf i).toNat)
  case atStart => exact ⟨0, by omega, rfl, by simp [turnPre], Below.refl _ _⟩
  case round =>
    obtain ⟨k, hk, rfl, rfl, hbl⟩ := hrel
    by_cases hlt : k < s.size
    · obtain ⟨y, hy⟩ : ∃ y, s[k] = y := ⟨_, rfl⟩
      have hts := turnPre_succ (bit := bit) hlt
      rw [hy, HQ.out, HR.out] at hts
      have HT := hidd hts
      have hps := turnPre_size (bit := bit) hk
      have hps' : (turnPre s bit k).size ≤ 16 := by omega
      have hyb := y.toNat_lt
      obtain ⟨b, hB⟩ : ∃ b, y.toNat = b := ⟨_, rfl⟩
      rw [hB] at hyb
      have e1 : wrap64 (s[k].toNat : Int) = (b : Int) := by rw [hy, hB]; unfold wrap64; omega
      have HB := hidd hB
      have p1 : (0 : Int) ≤ (k : Int) := by omega
      have p2 : (k : Int) < (s.size : Int) := by omega
      have p3 : (0 : Int) ≤ (b : Int) := by omega
      have p4 : (b : Int) < 256 := by omega
      clear hts hps hB hy
      by_cases hkq : k = q
      · have hkq2 : ((k : Int) == (q : Int)) = true := by simp [hkq]
        have HKQ := hidd hkq
        clear hkq
        go_wp2_with fail
        go_loop [8, 9] (fun m i => ∃ j : Nat, j ≤ r ∧ i = .int .i64 (j : Int) ∧ m = .int .i64 ((2 ^ j : Nat) : Int)) (fun _ i => r - (intOf i).toNat)
        case atStart => exact ⟨0, by omega, rfl, rfl⟩
        case round =>
          obtain ⟨j, hj, rfl, rfl⟩ := hrel
          by_cases hjr : j < r
          · have H2 : Hid (2 * 2 ^ j = 2 ^ (j + 1)) := hidd (by rw [Nat.pow_succ]; omega)
            have h128 : 2 ^ j ≤ 128 := Nat.le_trans (Nat.pow_le_pow_right (by omega) (show j ≤ 7 by omega)) (by decide)
            generalize 2 ^ j = m at *
            have p5 : (j : Int) < (r : Int) := by omega
            have p6 : (0 : Int) ≤ (m : Int) := by omega
            have p7 : (m : Int) ≤ 128 := by omega
            go_wp2_with fail
            go_round
            case rel => exact ⟨j + 1, hjr, by go_num, by rw [← H2.out]; go_num⟩
            case measure => simp [intOf]; omega
          · obtain rfl : j = r := by omega
            have hxp := xor_pow hyb hr8
            have hn256 : b ^^^ 2 ^ j < 256 := Nat.xor_lt_two_pow (n := 8) (by omega) (Nat.pow_lt_pow_right (by omega) hr8)
            have HFIN : Hid (turnPre s bit k ++ ⟨#[UInt8.ofNat (b ^^^ 2 ^ j)]⟩ = turnPre s bit (k + 1)) := by
              have := HT.out
              rw [if_pos HKQ.out, xor_ofNat, HB.out] at this
              exact hidd this
            have hrc : j = 0 ∨ j = 1 ∨ j = 2 ∨ j = 3 ∨ j = 4 ∨ j = 5 ∨ j = 6 ∨ j = 7 := by omega
            have hjj : ¬ (j : Int) < (j : Int) := by omega
            by_cases hodd : b / 2 ^ j % 2 = 1
            · rw [if_pos hodd] at hxp
              have hle : 2 ^ j ≤ b := by
                apply Nat.le_of_not_lt
                intro hh
                rw [Nat.div_eq_of_lt hh] at hodd
                omega
              have hod : (b : Int) / ((2 ^ j : Nat) : Int) % 2 = 1 := by
                have : ((b / 2 ^ j % 2 : Nat) : Int) = 1 := by rw [hodd]; rfl
                simpa using this
              have hnn : (b : Int) - ((2 ^ j : Nat) : Int) = ((b ^^^ 2 ^ j : Nat) : Int) := by rw [hxp]; omega
              clear hxp hodd hle
              generalize b ^^^ 2 ^ j = n at *
              rcases hrc with rfl | rfl | rfl | rfl | rfl | rfl | rfl | rfl
              all_goals
                push_cast at hod hnn
                try simp only [Int.ediv_one] at hod
                go_wp2_with fail
                refine (rbyte_any n wr hn256).mono ?_
                rintro e w3 ⟨rfl, hb3⟩
                have hb3' := hbl.trans (hb3.mono hbl.size)
                clear hb3
                go_wp2_with fail
                go_roundw
                case rel => exact ⟨k + 1, by omega, by go_num, by rw [← HFIN.out], hb3'⟩
                case measure => simp [intOf]; omega
            · rw [if_neg hodd] at hxp
              have hod : (b : Int) / ((2 ^ j : Nat) : Int) % 2 = 0 := by
                have : ((b / 2 ^ j % 2 : Nat) : Int) = 0 := by
                  have : b / 2 ^ j % 2 = 0 := by omega
                  rw [this]; rfl
                simpa using this
              have hnn : (b : Int) + ((2 ^ j : Nat) : Int) = ((b ^^^ 2 ^ j : Nat) : Int) := by rw [hxp]; omega
              clear hxp hodd
              generalize b ^^^ 2 ^ j = n at *
              rcases hrc with rfl | rfl | rfl | rfl | rfl | rfl | rfl | rfl
              all_goals
                push_cast at hod hnn
                try simp only [Int.ediv_one] at hod
                go_wp2_with fail
                refine (rbyte_any n wr hn256).mono ?_
                rintro e w3 ⟨rfl, hb3⟩
                have hb3' := hbl.trans (hb3.mono hbl.size)
                clear hb3
                go_wp2_with fail
                go_roundw
                case rel => exact ⟨k + 1, by omega, by go_num, by rw [← HFIN.out], hb3'⟩
                case measure => simp [intOf]; omega
      · have hkq2 : ((k : Int) == (q : Int)) = false := by simp; omega
        have hn256 : b < 256 := hyb
        have HFIN : Hid (turnPre s bit k ++ ⟨#[UInt8.ofNat b]⟩ = turnPre s bit (k + 1)) := by
          have := HT.out
          rw [if_neg hkq, ← ofNat_toNat y, HB.out] at this
          exact hidd this
        clear hkq
        obtain ⟨n, hn⟩ : ∃ n, b = n := ⟨_, rfl⟩
        subst hn
        go_wp2_with fail
        refine (rbyte_any b wr hn256).mono ?_
        rintro e w3 ⟨rfl, hb3⟩
        have hb3' := hbl.trans (hb3.mono hbl.size)
        clear hb3
        go_wp2_with fail
        go_roundw
        case rel => exact ⟨k + 1, by omega, by go_num, by rw [← HFIN.out], hb3'⟩
        case measure => simp [intOf]; omega
    · obtain rfl : k = s.size := by omega
      rw [turnPre_full]
      go_wp2_with fail
      go_ret
      exact ⟨rfl, hbl⟩
end Go.Proofs.YtgckmlafpmnekaaDoor
