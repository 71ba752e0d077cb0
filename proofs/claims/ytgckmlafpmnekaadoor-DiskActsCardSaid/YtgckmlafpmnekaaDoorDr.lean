/- The contracts of the reference's disk: small functions: its sum, its zeros, is a number one of these. Condition: sizes fit. -/
import Derived.Test.YtgckmlafpmnekaaDoorSum
import Derived.Test.YtgckmlafpmnekaaDoorDkN
import Derived.Deep.DeepCutAuto
namespace Go.Proofs.YtgckmlafpmnekaaDoor
open Go.RowKit

theorem ofInt_i64 (a : Nat) (ha : a < 4294967296) : (BitVec.ofInt 64 (a : Int)).toNat = a := by
  rw [BitVec.toNat_ofInt]
  omega
theorem i64_xor_nat (a b : Nat) (ha : a < 4294967296) (hb : b < 4294967296) : bits .xor .i64 (a : Int) (b : Int) = ((a ^^^ b : Nat) : Int) := by
  have hx : a ^^^ b < 2 ^ 32 := Nat.xor_lt_two_pow (by omega) (by omega)
  show IntKind.i64.wrap ((BitVec.ofInt 64 (a : Int) ^^^ BitVec.ofInt 64 (b : Int)).toNat : Int) = _
  rw [BitVec.toNat_xor, ofInt_i64 a ha, ofInt_i64 b hb, IntWalk.i64_in _ (by omega)]

set_option maxRecDepth 100000 in
set_option maxHeartbeats 1000000 in
theorem rcrc_any (s : ByteArray) (w : World) (hs : s.size ≤ 1000000) :
    Calls Tryd.prog 45 #[.string s] w fun e w' => e = .returned (.int .i64 (crc s.data.toList : Nat)) ∧ w = w' := by
  go_enter Tryd.func45, Tryd.ntmps45
  go_wp2_with fail
  go_loop [3, 4] (fun c i => ∃ k : Nat, k ≤ s.size ∧ i = .int .i64 (k : Int) ∧ c = .int .i64 (crcTo (s.data.toList.take k) : Nat)) (fun _ i => s.size - (intOf i).toNat)
  case atStart => exact ⟨0, by omega, rfl, rfl⟩
  case round =>
    obtain ⟨k, hk, rfl, rfl⟩ := hrel
    have hlt0 := crcTo_lt (s.data.toList.take k)
    by_cases hlt : k < s.size
    · have hts : s.data.toList.take (k + 1) = s.data.toList.take k ++ [s[k]] := by
        rw [List.take_succ_eq_append_getElem (by simpa using hlt)]; rfl
      have H1 : Hid (crcTo (s.data.toList.take (k + 1)) = refSteps s[k].toNat 8 (crcTo (s.data.toList.take k))) := by rw [hts, crcTo_snoc, crcSteps_eight]; rfl
      obtain ⟨y, hy⟩ : ∃ y, s[k] = y := ⟨_, rfl⟩
      rw [hy] at H1
      have hyb := y.toNat_lt
      clear hts
      have q1 : (0 : Int) ≤ (k : Int) := by omega
      have q2 : (k : Int) < (s.size : Int) := by omega
      generalize crcTo (s.data.toList.take k) = C at *
      go_wp2_with fail
      go_loop [3, 5] (fun c i => ∃ m : Nat, m ≤ 8 ∧ i = .int .i64 (m : Int) ∧ c = .int .i64 (refSteps y.toNat m C : Nat)) (fun _ i => 8 - (intOf i).toNat)
      case atStart => exact ⟨0, by omega, rfl, rfl⟩
      case round =>
        obtain ⟨m, hm, rfl, rfl⟩ := hrel
        have hl := refSteps_lt y.toNat hlt0 m
        by_cases hm8 : m < 8
        · have H2 : Hid (refSteps y.toNat (m + 1) C = refSteps y.toNat m C / 2 ^^^ (if (refSteps y.toNat m C ^^^ y.toNat >>> m) % 2 = 1 then 3988292384 else 0)) := rfl
          generalize refSteps y.toNat m C = c at *
          obtain ⟨b, hB⟩ : ∃ b, y.toNat = b := ⟨_, rfl⟩
          rw [hB] at hyb
          clear hlt0
          have p1 : (m : Int) < 8 := by omega
          have p2 : (0 : Int) ≤ (c : Int) := by omega
          have p3 : (c : Int) < 4294967296 := by omega
          have hmc : m = 0 ∨ m = 1 ∨ m = 2 ∨ m = 3 ∨ m = 4 ∨ m = 5 ∨ m = 6 ∨ m = 7 := by omega
          have e1 : wrap64 (s[k].toNat : Int) = (b : Int) := by rw [hy, hB]; unfold wrap64; omega
          have hsh : (b : Int) / ((2 ^ m : Nat) : Int) = ((b >>> m : Nat) : Int) := by rw [Nat.shiftRight_eq_div_pow]; rfl
          have hbm : b >>> m < 4294967296 := by rw [Nat.shiftRight_eq_div_pow]; exact Nat.lt_of_le_of_lt (Nat.div_le_self _ _) (by omega)
          have hx0 : bits .xor .i64 (c : Int) ((b >>> m : Nat) : Int) = ((c ^^^ b >>> m : Nat) : Int) := i64_xor_nat c _ hl hbm
          rw [← hsh] at hx0
          have hX2 : c ^^^ b >>> m < 4294967296 := Nat.xor_lt_two_pow (n := 32) (by omega) (by omega)
          have hx2 : bits .xor .i64 ((c : Int) / 2) 3988292384 = ((c / 2 ^^^ 3988292384 : Nat) : Int) := i64_xor_nat (c / 2) 3988292384 (by omega) (by omega)
          have hc2 : c / 2 < 4294967296 := by omega
          generalize hX : c ^^^ b >>> m = X at *
          have HX := hidd hX
          clear hsh hbm
          have p4 : (0 : Int) ≤ (X : Int) := by omega
          have HE : ∀ r, Hid (refSteps y.toNat (m + 1) C = r) ↔ Hid (c / 2 ^^^ (if X % 2 = 1 then 3988292384 else 0) = r) := fun r => by rw [H2.out, hB, hX]
          clear hX
          by_cases hodd : X % 2 = 1
          · have e3 : (X : Int).tmod 2 = 1 := by rw [Int.tmod_eq_emod_of_nonneg (by omega)]; omega
            have HR : Hid (refSteps y.toNat (m + 1) C = c / 2 ^^^ 3988292384) := (HE _).2 (hidd (by rw [if_pos hodd]))
            clear hodd HE H2 hB hy hyb hm hX2
            rcases hmc with rfl | rfl | rfl | rfl | rfl | rfl | rfl | rfl
            all_goals
              push_cast at hx0
              try simp only [Int.ediv_one] at hx0
              go_wp2_with fail
              go_round
              case rel => first | exact ⟨1, by omega, by go_num, congrArg (fun z : Nat => Value.int .i64 (z : Int)) HR.out.symm⟩ | exact ⟨2, by omega, by go_num, congrArg (fun z : Nat => Value.int .i64 (z : Int)) HR.out.symm⟩ | exact ⟨3, by omega, by go_num, congrArg (fun z : Nat => Value.int .i64 (z : Int)) HR.out.symm⟩ | exact ⟨4, by omega, by go_num, congrArg (fun z : Nat => Value.int .i64 (z : Int)) HR.out.symm⟩ | exact ⟨5, by omega, by go_num, congrArg (fun z : Nat => Value.int .i64 (z : Int)) HR.out.symm⟩ | exact ⟨6, by omega, by go_num, congrArg (fun z : Nat => Value.int .i64 (z : Int)) HR.out.symm⟩ | exact ⟨7, by omega, by go_num, congrArg (fun z : Nat => Value.int .i64 (z : Int)) HR.out.symm⟩ | exact ⟨8, by omega, by go_num, congrArg (fun z : Nat => Value.int .i64 (z : Int)) HR.out.symm⟩
              case measure => simp [intOf]
          · have e3 : (X : Int).tmod 2 = 0 := by rw [Int.tmod_eq_emod_of_nonneg (by omega)]; omega
            have HR : Hid (refSteps y.toNat (m + 1) C = c / 2) := (HE _).2 (hidd (by rw [if_neg hodd, Nat.xor_zero]))
            clear hodd HE H2 hB hy hyb hm hX2
            rcases hmc with rfl | rfl | rfl | rfl | rfl | rfl | rfl | rfl
            all_goals
              push_cast at hx0
              try simp only [Int.ediv_one] at hx0
              go_wp2_with fail
              go_round
              case rel => first | exact ⟨1, by omega, by go_num, congrArg (fun z : Nat => Value.int .i64 (z : Int)) HR.out.symm⟩ | exact ⟨2, by omega, by go_num, congrArg (fun z : Nat => Value.int .i64 (z : Int)) HR.out.symm⟩ | exact ⟨3, by omega, by go_num, congrArg (fun z : Nat => Value.int .i64 (z : Int)) HR.out.symm⟩ | exact ⟨4, by omega, by go_num, congrArg (fun z : Nat => Value.int .i64 (z : Int)) HR.out.symm⟩ | exact ⟨5, by omega, by go_num, congrArg (fun z : Nat => Value.int .i64 (z : Int)) HR.out.symm⟩ | exact ⟨6, by omega, by go_num, congrArg (fun z : Nat => Value.int .i64 (z : Int)) HR.out.symm⟩ | exact ⟨7, by omega, by go_num, congrArg (fun z : Nat => Value.int .i64 (z : Int)) HR.out.symm⟩ | exact ⟨8, by omega, by go_num, congrArg (fun z : Nat => Value.int .i64 (z : Int)) HR.out.symm⟩
              case measure => simp [intOf]
        · obtain rfl : m = 8 := by omega
          go_wp2_with fail
          go_round
          case rel => exact ⟨k + 1, by omega, by go_num, by rw [H1.out]⟩
          case measure => simp [intOf]; omega
    · obtain rfl : k = s.size := by omega
      have ht : s.data.toList.take s.size = s.data.toList := List.take_of_length_le (by simp)
      rw [ht] at hlt0 ⊢
      have HS : Hid (crc s.data.toList = crcTo s.data.toList ^^^ 4294967295) := rfl
      generalize crcTo s.data.toList = C at *
      have hx : bits .xor .i64 (C : Int) 4294967295 = ((C ^^^ 4294967295 : Nat) : Int) := i64_xor_nat C 4294967295 hlt0 (by omega)
      clear ht
      go_wp2_with fail
      go_ret
      rw [HS.out]
      exact ⟨rfl, rfl⟩

theorem has_any (v : Value) (l : List Int) (x : Int) (w : World) (h : Sl w v (icells l) l.length 1) :
    Calls Tryd.prog 85 #[v, .int .i64 x] w (IsBool (decide (x ∈ l)) w) := by
  obtain ⟨a, cap, rfl, -⟩ := id h
  have hm := h.le
  go_enter Tryd.func85, Tryd.ntmps85
  go_wp2_with fail
  go_loop [5] (fun i => ∃ k : Nat, k ≤ l.length ∧ i = .int .i64 (k : Int) ∧ x ∉ l.take k) (fun i => l.length - (intOf i).toNat)
  case atStart => exact ⟨0, Nat.zero_le _, rfl, by simp⟩
  case round =>
    obtain ⟨k, hk, rfl, hnot⟩ := hrel
    by_cases hlt : k < l.length
    · obtain ⟨b, off, rfl, -, hc, hcell⟩ := h.at1 hlt
      rw [show (icells l)[k] = .int .i64 l[k] by simp [icells]] at hcell
      have q1 : (0 : Int) ≤ (k : Int) := by omega
      have q2 : (k : Int) < (l.length : Int) := by omega
      by_cases hx : l[k] = x
      · have hxe : (l[k] == x) = true := by simp [hx]
        have hin : x ∈ l := by rw [← hx]; exact List.getElem_mem _
        have HX := hidd hin
        generalize l[k] = y at *
        clear hx hnot h hin
        go_wp2_with fail
        go_ret
        exact ⟨by simp [HX.out], rfl⟩
      · have hxe : (l[k] == x) = false := by simp [hx]
        have hnot' : x ∉ l.take (k + 1) := by
          intro hmem
          rw [List.take_succ_eq_append_getElem hlt] at hmem
          rcases List.mem_append.1 hmem with h1 | h1
          · exact hnot h1
          · exact hx (by simpa using Eq.symm (by simpa using h1))
        have HN := hidd hnot'
        generalize l[k] = y at *
        clear hx hnot h hnot'
        go_wp2_with fail
        go_round
        case rel => exact ⟨k + 1, by omega, by go_num, HN.out⟩
        case measure => simp [intOf]; omega
    · rw [List.take_of_length_le (by omega)] at hnot
      have HX := hidd hnot
      clear h hnot
      go_wp2_with fail
      go_ret
      exact ⟨by simp [HX.out], rfl⟩

theorem rzeros_any (w : World) : Calls Tryd.prog 84 #[] w fun e w' => e = .returned (.string (zb 16)) ∧ w = w' := by
  go_enter Tryd.func84, Tryd.ntmps84
  go_wp2_with fail
  go_loop [1, 2] (fun s i => ∃ k : Nat, k ≤ 16 ∧ i = .int .i64 (k : Int) ∧ s = .string (zb k)) (fun _ i => 16 - (intOf i).toNat)
  case atStart => exact ⟨0, by omega, rfl, rfl⟩
  case round =>
    obtain ⟨k, hk, rfl, rfl⟩ := hrel
    by_cases hlt : k < 16
    · have hz := zb_size k
      have H1 : Hid (zb k ++ ⟨#[0]⟩ = zb (k + 1)) := hidd (zb_succ k)
      have hz' : (zb k).size ≤ 16 := by omega
      have q1 : (k : Int) < 16 := by omega
      clear hz
      go_wp2_with fail
      go_round
      case rel => exact ⟨k + 1, by omega, by go_num, by rw [← H1.out]⟩
      case measure => simp [intOf]; omega
    · obtain rfl : k = 16 := by omega
      go_wp2_with fail
      go_ret
      exact ⟨rfl, rfl⟩

set_option maxRecDepth 100000 in
theorem rbyte_any (n : Nat) (w : World) (hn : n < 256) : Calls Tryd.prog 113 #[.int .i64 (n : Int)] w fun e w' => e = .returned (.string ⟨#[UInt8.ofNat n]⟩) ∧ Below w.heap.size w w' := by
  have q1 : (0 : Int) ≤ (n : Int) := by omega
  have q2 : (n : Int) < 256 := by omega
  have hb := Blk.new w [.int .u8 (n : Int)] 5
  have hc0 := hb.cell (i := 0) (v := .int .u8 (n : Int)) rfl
  have hu : ((UInt8.ofNat n).toNat : Int) = (n : Int) := by simp; omega
  have kb : (convert 144 9 (.slice (some ⟨w.heap.size, 0, none⟩) 1 1)).run Tryd.prog (w.alloc (.cells #[.int .u8 (n : Int)] 5)) = .ok (.string ⟨#[UInt8.ofNat n]⟩) (w.alloc (.cells #[.int .u8 (n : Int)] 5)) := run_convert_bytes_back (P := Tryd.prog) (w.alloc (.cells [.int .u8 (n : Int)].toArray 5)) 144 9 5 ⟨w.heap.size, 0, none⟩ 1 [UInt8.ofNat n] Tryd.underlying144 Tryd.underlying5 Tryd.underlying9 (by
    intro j hj
    obtain rfl : j = 0 := by simp at hj; omega
    have ea : (⟨w.heap.size, 0, none⟩ : Addr).add 0 = ⟨w.heap.size, 0, none⟩ := rfl
    rw [ea, hc0]
    simp only [List.getElem_cons_zero, hu])
  have hbl : Below w.heap.size w (w.alloc (.cells [.int .u8 (n : Int)].toArray 5)) := (Below.refl _ w).alloc (Nat.le_refl _) _
  have HBL := hidd hbl
  clear hb hc0 hu hbl
  go_enter Tryd.func113, Tryd.ntmps113
  go_wp2_with fail
  go_ret
  exact ⟨rfl, HBL.out⟩

theorem xor_pow_add : ∀ c : Fin 256, ∀ b : Fin 8, c.val ^^^ 2 ^ b.val = if c.val / 2 ^ b.val % 2 = 1 then c.val - 2 ^ b.val else c.val + 2 ^ b.val := by decide +kernel
/-- The document's way to turn a bit. -/
theorem xor_pow {c b : Nat} (hc : c < 256) (hb : b < 8) : c ^^^ 2 ^ b = if c / 2 ^ b % 2 = 1 then c - 2 ^ b else c + 2 ^ b := xor_pow_add ⟨c, hc⟩ ⟨b, hb⟩

/-- The first i bytes behind a turned bit. -/
def turnPre (s : ByteArray) (bit i : Nat) : ByteArray := ⟨((turn s bit).data.toList.take i).toArray⟩
theorem turnPre_succ {s : ByteArray} {bit i : Nat} (h : i < s.size) : turnPre s bit i ++ ⟨#[if i = bit / 8 then s[i] ^^^ UInt8.ofNat (2 ^ (bit % 8)) else s[i]]⟩ = turnPre s bit (i + 1) := by
  apply ByteArray.ext
  rw [ByteArray.data_append]
  unfold turnPre turn
  have hl : i < (s.data.toList.modify (bit / 8) (fun c => c ^^^ UInt8.ofNat (2 ^ (bit % 8)))).length := by simpa using h
  simp only
  rw [List.take_succ_eq_append_getElem (by simpa using h)]
  apply Array.toList_inj.1
  simp only [Array.toList_append, List.getElem_modify]
  congr 1
  by_cases e : i = bit / 8
  · rw [if_pos e, if_pos e.symm]; rfl
  · rw [if_neg e, if_neg (fun h => e h.symm)]; rfl
theorem turnPre_size {s : ByteArray} {bit i : Nat} (h : i ≤ s.size) : (turnPre s bit i).size = i := by
  have := turn_size s bit
  show (((turn s bit).data.toList.take i).toArray).size = i
  have e : (turn s bit).data.size = s.size := this
  simp
  omega
theorem turnPre_full (s : ByteArray) (bit : Nat) : turnPre s bit s.size = turn s bit := by
  apply ByteArray.ext
  have e : (turn s bit).data.size = s.size := turn_size s bit
  show ((turn s bit).data.toList.take s.size).toArray = (turn s bit).data
  rw [List.take_of_length_le (by simp [e])]
end Go.Proofs.YtgckmlafpmnekaaDoor
