/- The contracts of the reference's disk: small functions: its sum, its zeros, is a number one of these. Condition: sizes fit. · The contract of the reference's turned. Condition: the bit lies in the text. · The contracts of the reference's disk: what waits, what is read, what a crash leaves. Condition: the receiver is a model that NewDisk gave. -/
import Derived.Test.YtcpilhembdphoaaGreatDoorSum
import Derived.Test.YtcpilhembdphoaaGreatDoorDkN
import Derived.Deep.DeepCutAuto
namespace Go.Proofs.YtcpilhembdphoaaGreatDoor
open Go.RowKit

theorem ofInt_i64 (a : Nat) (ha : a < 4294967296) : (BitVec.ofInt 64 (a : Int)).toNat = a := by
  rw [BitVec.toNat_ofInt]
  omega
theorem i64_xor_nat (a b : Nat) (ha : a < 4294967296) (hb : b < 4294967296) : bits .xor .i64 (a : Int) (b : Int) = ((a ^^^ b : Nat) : Int) := by
  have hx : a ^^^ b < 2 ^ 32 := Nat.xor_lt_two_pow (by omega) (by omega)
  show IntKind.i64.wrap ((BitVec.ofInt 64 (a : Int) ^^^ BitVec.ofInt 64 (b : Int)).toNat : Int) = _
  rw [BitVec.toNat_xor, ofInt_i64 a ha, ofInt_i64 b hb, IntWalk.i64_in _ (by omega)]

set_option maxRecDepth 100000 in
set_option maxHeartbeats 1000000 in
theorem rcrc_any (s : ByteArray) (w : World) (hs : s.size ≤ 1000000) :
    Calls Tryz.prog 62 #[.string s] w fun e w' => e = .returned (.int .i64 (crc s.data.toList : Nat)) ∧ w = w' := by
  go_enter Tryz.func62, Tryz.ntmps62
  go_wp2_with fail
  go_loop [3, 4] (fun c i => ∃ k : Nat, k ≤ s.size ∧ i = .int .i64 (k : Int) ∧ c = .int .i64 (crcTo (s.data.toList.take k) : Nat)) (fun _ i => s.size - (intOf i).toNat)
  case atStart => exact ⟨0, by omega, rfl, rfl⟩
  case round =>
    obtain ⟨k, hk, rfl, rfl⟩ := hrel
    have hlt0 := crcTo_lt (s.data.toList.take k)
    by_cases hlt : k < s.size
    · have hts : s.data.toList.take (k + 1) = s.data.toList.take k ++ [s[k]] := by
        rw [List.take_succ_eq_append_getElem (by simpa using hlt)]; rfl
      have H1 : Hid (crcTo (s.data.toList.take (k + 1)) = refSteps s[k].toNat 8 (crcTo (s.data.toList.take k))) := by rw [hts, crcTo_snoc, crcSteps_eight]; rfl
      obtain ⟨y, hy⟩ : ∃ y, s[k] = y := ⟨_, rfl⟩
      rw [hy] at H1
      have hyb := y.toNat_lt
      clear hts
      have q1 : (0 : Int) ≤ (k : Int) := by omega
      have q2 : (k : Int) < (s.size : Int) := by omega
      generalize crcTo (s.data.toList.take k) = C at *
      go_wp2_with fail
      go_loop [3, 5] (fun c i => ∃ m : Nat, m ≤ 8 ∧ i = .int .i64 (m : Int) ∧ c = .int .i64 (refSteps y.toNat m C : Nat)) (fun _ i => 8 - (intOf i).toNat)
      case atStart => exact ⟨0, by omega, rfl, rfl⟩
      case round =>
        obtain ⟨m, hm, rfl, rfl⟩ := hrel
        have hl := refSteps_lt y.toNat hlt0 m
        by_cases hm8 : m < 8
        · have H2 : Hid (refSteps y.toNat (m + 1) C = refSteps y.toNat m C / 2 ^^^ (if (refSteps y.toNat m C ^^^ y.toNat >>> m) % 2 = 1 then 3988292384 else 0)) := rfl
          generalize refSteps y.toNat m C = c at *
          obtain ⟨b, hB⟩ : ∃ b, y.toNat = b := ⟨_, rfl⟩
          rw [hB] at hyb
          clear hlt0
          have p1 : (m : Int) < 8 := by omega
          have p2 : (0 : Int) ≤ (c : Int) := by omega
          have p3 : (c : Int) < 4294967296 := by omega
          have hmc : m = 0 ∨ m = 1 ∨ m = 2 ∨ m = 3 ∨ m = 4 ∨ m = 5 ∨ m = 6 ∨ m = 7 := by omega
          have e1 : wrap64 (s[k].toNat : Int) = (b : Int) := by rw [hy, hB]; unfold wrap64; omega
          have hsh : (b : Int) / ((2 ^ m : Nat) : Int) = ((b >>> m : Nat) : Int) := by rw [Nat.shiftRight_eq_div_pow]; rfl
          have hbm : b >>> m < 4294967296 := by rw [Nat.shiftRight_eq_div_pow]; exact Nat.lt_of_le_of_lt (Nat.div_le_self _ _) (by omega)
          have hx0 : bits .xor .i64 (c : Int) ((b >>> m : Nat) : Int) = ((c ^^^ b >>> m : Nat) : Int) := i64_xor_nat c _ hl hbm
          rw [← hsh] at hx0
          have hX2 : c ^^^ b >>> m < 4294967296 := Nat.xor_lt_two_pow (n := 32) (by omega) (by omega)
          have hx2 : bits .xor .i64 ((c : Int) / 2) 3988292384 = ((c / 2 ^^^ 3988292384 : Nat) : Int) := i64_xor_nat (c / 2) 3988292384 (by omega) (by omega)
          have hc2 : c / 2 < 4294967296 := by omega
          generalize hX : c ^^^ b >>> m = X at *
          have HX := hidd hX
          clear hsh hbm
          have p4 : (0 : Int) ≤ (X : Int) := by omega
          have HE : ∀ r, Hid (refSteps y.toNat (m + 1) C = r) ↔ Hid (c / 2 ^^^ (if X % 2 = 1 then 3988292384 else 0) = r) := fun r => by rw [H2.out, hB, hX]
          clear hX
          by_cases hodd : X % 2 = 1
          · have e3 : (X : Int).tmod 2 = 1 := by rw [Int.tmod_eq_emod_of_nonneg (by omega)]; omega
            have HR : Hid (refSteps y.toNat (m + 1) C = c / 2 ^^^ 3988292384) := (HE _).2 (hidd (by rw [if_pos hodd]))
            clear hodd HE H2 hB hy hyb hm hX2
            rcases hmc with rfl | rfl | rfl | rfl | rfl | rfl | rfl | rfl
            all_goals
              push_cast at hx0
              try simp only [Int.ediv_one] at hx0
              go_wp2_with fail
              go_round
              case rel => first | exact ⟨1, by omega, by go_num, congrArg (fun z : Nat => Value.int .i64 (z : Int)) HR.out.symm⟩ | exact ⟨2, by omega, by go_num, congrArg (fun z : Nat => Value.int .i64 (z : Int)) HR.out.symm⟩ | exact ⟨3, by omega, by go_num, congrArg (fun z : Nat => Value.int .i64 (z : Int)) HR.out.symm⟩ | exact ⟨4, by omega, by go_num, congrArg (fun z : Nat => Value.int .i64 (z : Int)) HR.out.symm⟩ | exact ⟨5, by omega, by go_num, congrArg (fun z : Nat => Value.int .i64 (z : Int)) HR.out.symm⟩ | exact ⟨6, by omega, by go_num, congrArg (fun z : Nat => Value.int .i64 (z : Int)) HR.out.symm⟩ | exact ⟨7, by omega, by go_num, congrArg (fun z : Nat => Value.int .i64 (z : Int)) HR.out.symm⟩ | exact ⟨8, by omega, by go_num, congrArg (fun z : Nat => Value.int .i64 (z : Int)) HR.out.symm⟩
              case measure => simp [intOf]
          · have e3 : (X : Int).tmod 2 = 0 := by rw [Int.tmod_eq_emod_of_nonneg (by omega)]; omega
            have HR : Hid (refSteps y.toNat (m + 1) C = c / 2) := (HE _).2 (hidd (by rw [if_neg hodd, Nat.xor_zero]))
            clear hodd HE H2 hB hy hyb hm hX2
            rcases hmc with rfl | rfl | rfl | rfl | rfl | rfl | rfl | rfl
            all_goals
              push_cast at hx0
              try simp only [Int.ediv_one] at hx0
              go_wp2_with fail
              go_round
              case rel => first | exact ⟨1, by omega, by go_num, congrArg (fun z : Nat => Value.int .i64 (z : Int)) HR.out.symm⟩ | exact ⟨2, by omega, by go_num, congrArg (fun z : Nat => Value.int .i64 (z : Int)) HR.out.symm⟩ | exact ⟨3, by omega, by go_num, congrArg (fun z : Nat => Value.int .i64 (z : Int)) HR.out.symm⟩ | exact ⟨4, by omega, by go_num, congrArg (fun z : Nat => Value.int .i64 (z : Int)) HR.out.symm⟩ | exact ⟨5, by omega, by go_num, congrArg (fun z : Nat => Value.int .i64 (z : Int)) HR.out.symm⟩ | exact ⟨6, by omega, by go_num, congrArg (fun z : Nat => Value.int .i64 (z : Int)) HR.out.symm⟩ | exact ⟨7, by omega, by go_num, congrArg (fun z : Nat => Value.int .i64 (z : Int)) HR.out.symm⟩ | exact ⟨8, by omega, by go_num, congrArg (fun z : Nat => Value.int .i64 (z : Int)) HR.out.symm⟩
              case measure => simp [intOf]
        · obtain rfl : m = 8 := by omega
          go_wp2_with fail
          go_round
          case rel => exact ⟨k + 1, by omega, by go_num, by rw [H1.out]⟩
          case measure => simp [intOf]; omega
    · obtain rfl : k = s.size := by omega
      have ht : s.data.toList.take s.size = s.data.toList := List.take_of_length_le (by simp)
      rw [ht] at hlt0 ⊢
      have HS : Hid (crc s.data.toList = crcTo s.data.toList ^^^ 4294967295) := rfl
      generalize crcTo s.data.toList = C at *
      have hx : bits .xor .i64 (C : Int) 4294967295 = ((C ^^^ 4294967295 : Nat) : Int) := i64_xor_nat C 4294967295 hlt0 (by omega)
      clear ht
      go_wp2_with fail
      go_ret
      rw [HS.out]
      exact ⟨rfl, rfl⟩

theorem has_any (v : Value) (l : List Int) (x : Int) (w : World) (h : Sl w v (icells l) l.length 1) :
    Calls Tryz.prog 89 #[v, .int .i64 x] w (IsBool (decide (x ∈ l)) w) := by
  obtain ⟨a, cap, rfl, -⟩ := id h
  have hm := h.le
  go_enter Tryz.func89, Tryz.ntmps89
  go_wp2_with fail
  go_loop [5] (fun i => ∃ k : Nat, k ≤ l.length ∧ i = .int .i64 (k : Int) ∧ x ∉ l.take k) (fun i => l.length - (intOf i).toNat)
  case atStart => exact ⟨0, Nat.zero_le _, rfl, by simp⟩
  case round =>
    obtain ⟨k, hk, rfl, hnot⟩ := hrel
    by_cases hlt : k < l.length
    · obtain ⟨b, off, rfl, -, hc, hcell⟩ := h.at1 hlt
      rw [show (icells l)[k] = .int .i64 l[k] by simp [icells]] at hcell
      have q1 : (0 : Int) ≤ (k : Int) := by omega
      have q2 : (k : Int) < (l.length : Int) := by omega
      by_cases hx : l[k] = x
      · have hxe : (l[k] == x) = true := by simp [hx]
        have hin : x ∈ l := by rw [← hx]; exact List.getElem_mem _
        have HX := hidd hin
        generalize l[k] = y at *
        clear hx hnot h hin
        go_wp2_with fail
        go_ret
        exact ⟨by simp [HX.out], rfl⟩
      · have hxe : (l[k] == x) = false := by simp [hx]
        have hnot' : x ∉ l.take (k + 1) := by
          intro hmem
          rw [List.take_succ_eq_append_getElem hlt] at hmem
          rcases List.mem_append.1 hmem with h1 | h1
          · exact hnot h1
          · exact hx (by simpa using Eq.symm (by simpa using h1))
        have HN := hidd hnot'
        generalize l[k] = y at *
        clear hx hnot h hnot'
        go_wp2_with fail
        go_round
        case rel => exact ⟨k + 1, by omega, by go_num, HN.out⟩
        case measure => simp [intOf]; omega
    · rw [List.take_of_length_le (by omega)] at hnot
      have HX := hidd hnot
      clear h hnot
      go_wp2_with fail
      go_ret
      exact ⟨by simp [HX.out], rfl⟩

theorem rzerosd_any (w : World) : Calls Tryz.prog 48 #[] w fun e w' => e = .returned (.string (zb 16)) ∧ w = w' := by
  go_enter Tryz.func48, Tryz.ntmps48
  go_wp2_with fail
  go_loop [1, 2] (fun s i => ∃ k : Nat, k ≤ 16 ∧ i = .int .i64 (k : Int) ∧ s = .string (zb k)) (fun _ i => 16 - (intOf i).toNat)
  case atStart => exact ⟨0, by omega, rfl, rfl⟩
  case round =>
    obtain ⟨k, hk, rfl, rfl⟩ := hrel
    by_cases hlt : k < 16
    · have hz := zb_size k
      have H1 : Hid (zb k ++ ⟨#[0]⟩ = zb (k + 1)) := hidd (zb_succ k)
      have hz' : (zb k).size ≤ 16 := by omega
      have q1 : (k : Int) < 16 := by omega
      clear hz
      go_wp2_with fail
      go_round
      case rel => exact ⟨k + 1, by omega, by go_num, by rw [← H1.out]⟩
      case measure => simp [intOf]; omega
    · obtain rfl : k = 16 := by omega
      go_wp2_with fail
      go_ret
      exact ⟨rfl, rfl⟩

set_option maxRecDepth 100000 in
theorem rbyte_any (n : Nat) (w : World) (hn : n < 256) : Calls Tryz.prog 88 #[.int .i64 (n : Int)] w fun e w' => e = .returned (.string ⟨#[UInt8.ofNat n]⟩) ∧ Below w.heap.size w w' := by
  have q1 : (0 : Int) ≤ (n : Int) := by omega
  have q2 : (n : Int) < 256 := by omega
  have hb := Blk.new w [.int .u8 (n : Int)] 5
  have hc0 := hb.cell (i := 0) (v := .int .u8 (n : Int)) rfl
  have hu : ((UInt8.ofNat n).toNat : Int) = (n : Int) := by simp; omega
  have kb : (convert 85 9 (.slice (some ⟨w.heap.size, 0, none⟩) 1 1)).run Tryz.prog (w.alloc (.cells #[.int .u8 (n : Int)] 5)) = .ok (.string ⟨#[UInt8.ofNat n]⟩) (w.alloc (.cells #[.int .u8 (n : Int)] 5)) := run_convert_bytes_back (P := Tryz.prog) (w.alloc (.cells [.int .u8 (n : Int)].toArray 5)) 85 9 5 ⟨w.heap.size, 0, none⟩ 1 [UInt8.ofNat n] Tryz.underlying85 Tryz.underlying5 Tryz.underlying9 (by
    intro j hj
    obtain rfl : j = 0 := by simp at hj; omega
    have ea : (⟨w.heap.size, 0, none⟩ : Addr).add 0 = ⟨w.heap.size, 0, none⟩ := rfl
    rw [ea, hc0]
    simp only [List.getElem_cons_zero, hu])
  have hbl : Below w.heap.size w (w.alloc (.cells [.int .u8 (n : Int)].toArray 5)) := (Below.refl _ w).alloc (Nat.le_refl _) _
  have HBL := hidd hbl
  clear hb hc0 hu hbl
  go_enter Tryz.func88, Tryz.ntmps88
  go_wp2_with fail
  go_ret
  exact ⟨rfl, HBL.out⟩

theorem xor_pow_add : ∀ c : Fin 256, ∀ b : Fin 8, c.val ^^^ 2 ^ b.val = if c.val / 2 ^ b.val % 2 = 1 then c.val - 2 ^ b.val else c.val + 2 ^ b.val := by decide +kernel
/-- The document's way to turn a bit. -/
theorem xor_pow {c b : Nat} (hc : c < 256) (hb : b < 8) : c ^^^ 2 ^ b = if c / 2 ^ b % 2 = 1 then c - 2 ^ b else c + 2 ^ b := xor_pow_add ⟨c, hc⟩ ⟨b, hb⟩

/-- The first i bytes behind a turned bit. -/
def turnPre (s : ByteArray) (bit i : Nat) : ByteArray := ⟨((turn s bit).data.toList.take i).toArray⟩
theorem turnPre_succ {s : ByteArray} {bit i : Nat} (h : i < s.size) : turnPre s bit i ++ ⟨#[if i = bit / 8 then s[i] ^^^ UInt8.ofNat (2 ^ (bit % 8)) else s[i]]⟩ = turnPre s bit (i + 1) := by
  apply ByteArray.ext
  rw [ByteArray.data_append]
  unfold turnPre turn
  have hl : i < (s.data.toList.modify (bit / 8) (fun c => c ^^^ UInt8.ofNat (2 ^ (bit % 8)))).length := by simpa using h
  simp only
  rw [List.take_succ_eq_append_getElem (by simpa using h)]
  apply Array.toList_inj.1
  simp only [Array.toList_append, List.getElem_modify]
  congr 1
  by_cases e : i = bit / 8
  · rw [if_pos e, if_pos e.symm]; rfl
  · rw [if_neg e, if_neg (fun h => e h.symm)]; rfl
theorem turnPre_size {s : ByteArray} {bit i : Nat} (h : i ≤ s.size) : (turnPre s bit i).size = i := by
  have := turn_size s bit
  show (((turn s bit).data.toList.take i).toArray).size = i
  have e : (turn s bit).data.size = s.size := this
  simp
  omega
theorem turnPre_full (s : ByteArray) (bit : Nat) : turnPre s bit s.size = turn s bit := by
  apply ByteArray.ext
  have e : (turn s bit).data.size = s.size := turn_size s bit
  show ((turn s bit).data.toList.take s.size).toArray = (turn s bit).data
  rw [List.take_of_length_le (by simp [e])]
end Go.Proofs.YtcpilhembdphoaaGreatDoor

namespace Go.Proofs.YtcpilhembdphoaaGreatDoor
open Go.RowKit

theorem xor_ofNat (y : UInt8) (n : Nat) : y ^^^ UInt8.ofNat n = UInt8.ofNat (y.toNat ^^^ n) := by
  apply UInt8.toNat.inj
  simp
theorem ofNat_toNat (y : UInt8) : UInt8.ofNat y.toNat = y := by simp

set_option maxRecDepth 100000 in
set_option maxHeartbeats 4000000 in
theorem rturned_any (s : ByteArray) (bit : Nat) (w : World) (hb : bit < 128) (hs : s.size = 16) :
    Calls Tryz.prog 64 #[.string s, .int .i64 (bit : Int)] w fun e w' => e = .returned (.string (turn s bit)) ∧ Below w.heap.size w w' := by
  obtain ⟨q, hq⟩ : ∃ q, bit / 8 = q := ⟨_, rfl⟩
  obtain ⟨r, hr⟩ : ∃ r, bit % 8 = r := ⟨_, rfl⟩
  have hqi : (bit : Int) / 8 = (q : Int) := by omega
  have hri : (bit : Int) % 8 = (r : Int) := by omega
  have hr8 : r < 8 := by omega
  have HQ := hidd hq
  have HR := hidd hr
  have HS := hidd hs
  have q1 : (0 : Int) ≤ (bit : Int) := by omega
  have q2 : (bit : Int) < 128 := by omega
  have hsz : s.size ≤ 16 := by omega
  clear hq hr hs
  go_enter Tryz.func64, Tryz.ntmps64
  go_wp2_with fail
  go_loopw [5, 6] (fun o i wr => ∃ k : Nat, k ≤ s.size ∧ i = .int .i64 (k : Int) ∧ o = .string (turnPre s bit k) ∧ Below w.heap.size w wr) (fun _ i _ => s.size - (intOf i).toNat)
  case atStart => exact ⟨0, by omega, rfl, by simp [turnPre], Below.refl _ _⟩
  case round =>
    obtain ⟨k, hk, rfl, rfl, hbl⟩ := hrel
    by_cases hlt : k < s.size
    · obtain ⟨y, hy⟩ : ∃ y, s[k] = y := ⟨_, rfl⟩
      have hts := turnPre_succ (bit := bit) hlt
      rw [hy, HQ.out, HR.out] at hts
      have HT := hidd hts
      have hps := turnPre_size (bit := bit) hk
      have hps' : (turnPre s bit k).size ≤ 16 := by omega
      have hyb := y.toNat_lt
      obtain ⟨b, hB⟩ : ∃ b, y.toNat = b := ⟨_, rfl⟩
      rw [hB] at hyb
      have e1 : wrap64 (s[k].toNat : Int) = (b : Int) := by rw [hy, hB]; unfold wrap64; omega
      have HB := hidd hB
      have p1 : (0 : Int) ≤ (k : Int) := by omega
      have p2 : (k : Int) < (s.size : Int) := by omega
      have p3 : (0 : Int) ≤ (b : Int) := by omega
      have p4 : (b : Int) < 256 := by omega
      clear hts hps hB hy
      by_cases hkq : k = q
      · have hkq2 : ((k : Int) == (q : Int)) = true := by simp [hkq]
        have HKQ := hidd hkq
        clear hkq
        go_wp2_with fail
        go_loop [8, 9] (fun m i => ∃ j : Nat, j ≤ r ∧ i = .int .i64 (j : Int) ∧ m = .int .i64 ((2 ^ j : Nat) : Int)) (fun _ i => r - (intOf i).toNat)
        case atStart => exact ⟨0, by omega, rfl, rfl⟩
        case round =>
          obtain ⟨j, hj, rfl, rfl⟩ := hrel
          by_cases hjr : j < r
          · have H2 : Hid (2 * 2 ^ j = 2 ^ (j + 1)) := hidd (by rw [Nat.pow_succ]; omega)
            have h128 : 2 ^ j ≤ 128 := Nat.le_trans (Nat.pow_le_pow_right (by omega) (show j ≤ 7 by omega)) (by decide)
            generalize 2 ^ j = m at *
            have p5 : (j : Int) < (r : Int) := by omega
            have p6 : (0 : Int) ≤ (m : Int) := by omega
            have p7 : (m : Int) ≤ 128 := by omega
            go_wp2_with fail
            go_round
            case rel => exact ⟨j + 1, hjr, by go_num, by rw [← H2.out]; go_num⟩
            case measure => simp [intOf]; omega
          · obtain rfl : j = r := by omega
            have hxp := xor_pow hyb hr8
            have hn256 : b ^^^ 2 ^ j < 256 := Nat.xor_lt_two_pow (n := 8) (by omega) (Nat.pow_lt_pow_right (by omega) hr8)
            have HFIN : Hid (turnPre s bit k ++ ⟨#[UInt8.ofNat (b ^^^ 2 ^ j)]⟩ = turnPre s bit (k + 1)) := by
              have := HT.out
              rw [if_pos HKQ.out, xor_ofNat, HB.out] at this
              exact hidd this
            have hrc : j = 0 ∨ j = 1 ∨ j = 2 ∨ j = 3 ∨ j = 4 ∨ j = 5 ∨ j = 6 ∨ j = 7 := by omega
            have hjj : ¬ (j : Int) < (j : Int) := by omega
            by_cases hodd : b / 2 ^ j % 2 = 1
            · rw [if_pos hodd] at hxp
              have hle : 2 ^ j ≤ b := by
                apply Nat.le_of_not_lt
                intro hh
                rw [Nat.div_eq_of_lt hh] at hodd
                omega
              have hod : (b : Int) / ((2 ^ j : Nat) : Int) % 2 = 1 := by
                have : ((b / 2 ^ j % 2 : Nat) : Int) = 1 := by rw [hodd]; rfl
                simpa using this
              have hnn : (b : Int) - ((2 ^ j : Nat) : Int) = ((b ^^^ 2 ^ j : Nat) : Int) := by rw [hxp]; omega
              clear hxp hodd hle
              generalize b ^^^ 2 ^ j = n at *
              rcases hrc with rfl | rfl | rfl | rfl | rfl | rfl | rfl | rfl
              all_goals
                push_cast at hod hnn
                try simp only [Int.ediv_one] at hod
                go_wp2_with fail
                refine (rbyte_any n wr hn256).mono ?_
                rintro e w3 ⟨rfl, hb3⟩
                have hb3' := hbl.trans (hb3.mono hbl.size)
                clear hb3
                go_wp2_with fail
                go_roundw
                case rel => exact ⟨k + 1, by omega, by go_num, by rw [← HFIN.out], hb3'⟩
                case measure => simp [intOf]; omega
            · rw [if_neg hodd] at hxp
              have hod : (b : Int) / ((2 ^ j : Nat) : Int) % 2 = 0 := by
                have : ((b / 2 ^ j % 2 : Nat) : Int) = 0 := by
                  have : b / 2 ^ j % 2 = 0 := by omega
                  rw [this]; rfl
                simpa using this
              have hnn : (b : Int) + ((2 ^ j : Nat) : Int) = ((b ^^^ 2 ^ j : Nat) : Int) := by rw [hxp]; omega
              clear hxp hodd
              generalize b ^^^ 2 ^ j = n at *
              rcases hrc with rfl | rfl | rfl | rfl | rfl | rfl | rfl | rfl
              all_goals
                push_cast at hod hnn
                try simp only [Int.ediv_one] at hod
                go_wp2_with fail
                refine (rbyte_any n wr hn256).mono ?_
                rintro e w3 ⟨rfl, hb3⟩
                have hb3' := hbl.trans (hb3.mono hbl.size)
                clear hb3
                go_wp2_with fail
                go_roundw
                case rel => exact ⟨k + 1, by omega, by go_num, by rw [← HFIN.out], hb3'⟩
                case measure => simp [intOf]; omega
      · have hkq2 : ((k : Int) == (q : Int)) = false := by simp; omega
        have hn256 : b < 256 := hyb
        have HFIN : Hid (turnPre s bit k ++ ⟨#[UInt8.ofNat b]⟩ = turnPre s bit (k + 1)) := by
          have := HT.out
          rw [if_neg hkq, ← ofNat_toNat y, HB.out] at this
          exact hidd this
        clear hkq
        obtain ⟨n, hn⟩ : ∃ n, b = n := ⟨_, rfl⟩
        subst hn
        go_wp2_with fail
        refine (rbyte_any b wr hn256).mono ?_
        rintro e w3 ⟨rfl, hb3⟩
        have hb3' := hbl.trans (hb3.mono hbl.size)
        clear hb3
        go_wp2_with fail
        go_roundw
        case rel => exact ⟨k + 1, by omega, by go_num, by rw [← HFIN.out], hb3'⟩
        case measure => simp [intOf]; omega
    · obtain rfl : k = s.size := by omega
      rw [turnPre_full]
      go_wp2_with fail
      go_ret
      exact ⟨rfl, hbl⟩
end Go.Proofs.YtcpilhembdphoaaGreatDoor

namespace Go.Proofs.YtcpilhembdphoaaGreatDoor
open Go.RowKit

/-- A model of a disk: its struct lies in block q. -/
structure DrAt (w : World) (q : Nat) (lv wv : Value) (ls : List ByteArray) (ws : List (Nat × ByteArray)) : Prop where
  head : Blk w q [lv, wv] 99
  l : Ow (fun g => g ≠ q) w 9 1 lv ls.length (ls.map Value.string)
  wait : Ow (fun g => g ≠ q) w 130 2 wv ws.length (wcells ws)
  dis : ∀ k, lv.ownBlock = some k → wv.ownBlock ≠ some k
  inr : ∀ x ∈ ws, x.1 < ls.length

/-- The blocks that an act on a model may turn. -/
def drS (q : Nat) (lv wv : Value) (b : Nat) : Prop := b = q ∨ lv.ownBlock = some b ∨ wv.ownBlock = some b

section
variable {w w' : World} {q : Nat} {lv wv : Value} {ls : List ByteArray} {ws : List (Nat × ByteArray)}
theorem DrAt.fr {S : Nat → Prop} (h : DrAt w q lv wv ls ws) (hf : Fr S w w') (hS : ∀ b, drS q lv wv b → ¬ S b) : DrAt w' q lv wv ls ws :=
  ⟨h.head.fr hf (hS q (.inl rfl)), h.l.fr hf (fun k hk => hS k (.inr (.inl hk))), h.wait.fr hf (fun k hk => hS k (.inr (.inr hk))), h.dis, h.inr⟩
theorem DrAt.lt (h : DrAt w q lv wv ls ws) : ∀ b, drS q lv wv b → b < w.heap.size := by
  rintro b (rfl | hb | hb)
  · exact h.head.lt
  · exact (h.l.blk b hb).2
  · exact (h.wait.blk b hb).2
theorem DrAt.ob {B : Nat} (h : DrAt w q lv wv ls ws) (hf : Below B w w') (hB : w.heap.size ≤ B) : DrAt w' q lv wv ls ws :=
  h.fr (S := fun b => B ≤ b) (Fr.of_below hf (fun _ _ x => x)) (fun b hb => by have := h.lt b hb; omega)
end

theorem infoRW : (Tryz.prog.info? 130).map (fun i => (i.zero, i.size, i.bytes)) = some (some (.agg #[.int .i64 0, .string ⟨#[]⟩]), 2, 24) := by kernel_rfl

/-- A write that waits in the model. -/
def PutPost (q : Nat) (lv wv : Value) (ls : List ByteArray) (ws : List (Nat × ByteArray)) (w : World) (e : Ending) (w' : World) : Prop :=
  (∃ u, e = .returned u) ∧ ∃ wv', DrAt w' q lv wv' ls ws ∧ (∀ b, wv'.ownBlock = some b → wv.ownBlock = some b ∨ w.heap.size ≤ b) ∧ Fr (drS q lv wv) w w'

set_option maxRecDepth 100000 in
set_option maxHeartbeats 1000000 in
theorem rput_any (q : Nat) (lv wv : Value) (ls : List ByteArray) (ws : List (Nat × ByteArray)) (k : Nat) (s : ByteArray) (w : World) (h : DrAt w q lv wv ls ws) (hk : k < ls.length) (hws : ws.length ≤ 1000000) :
    Calls Tryz.prog 83 #[.pointer (some ⟨q, 0, none⟩), .int .i64 (k : Int), .string s] w (PutPost q lv wv ls (ws ++ [(k, s)]) w) := by
  obtain ⟨i0, hi, hz0, hz1, hz2⟩ := info_parts infoRW
  have hw : w.cell? ⟨q, 1, none⟩ = some wv := h.head.cell rfl
  obtain ⟨a, cap, rfl⟩ := h.wait.shape
  have hp := h.head.lt
  have hbl := h.wait.blk
  have hll := h.l.blk
  have how := h.wait.self w.heap.size
  have hs1 := Src.new (P := Tryz.prog) (size := 2) (tx := 97) Tryz.underlying97 w w.heap.size rfl [.int .i64 (k : Int), .string s] 130 rfl (by intro u hu; simp at hu; rcases hu with rfl | rfl <;> rfl) 1
  have how1 := how.alloc (.cells #[.int .i64 (k : Int), .string s] 130)
  have hd1 := h.head.alloc (.cells #[.int .i64 (k : Int), .string s] 130)
  have hw1 := hd1.cell (i := 1) (v := .slice a ws.length cap) rfl
  have hl1 := h.l.alloc (.cells #[.int .i64 (k : Int), .string s] 130)
  have hdis := h.dis
  have hinr := h.inr
  go_enter Tryz.func83, Tryz.ntmps83
  go_wp2_with (at_builtin; refine wpList_append_ow _ rfl _ _ 97 97 rfl _ ?cF 130 i0 _ 2 24 Tryz.underlying97 hi hz0 hz1 hz2 rfl (by decide) _ _ _ rfl how1 _ _ _ rfl hs1 ?c3 ?c4 ?_)
  case cF => intro g hg; simp at hg; exact ⟨by omega, .inr (by omega)⟩
  case c3 => unfold maxLen; omega
  case c4 => omega
  intro v' w1 hown' hgrow
  have hh1 : Blk w1 q [lv, .slice a ws.length cap] 99 := hd1.grown hgrow (fun e => (hbl q e.symm).1 rfl)
  have hl2 := hl1.grown hgrow (fun k' hk' => hdis k' hk')
  have hc1 := hh1.cell (i := 1) (v := .slice a ws.length cap) rfl
  have hf1 := hh1.frozen 1
  obtain ⟨a', cap', rfl⟩ := hown'.shape
  have hset := hh1.set 1 (.slice a' (ws.length + 1) cap')
  have hl3 := hl2.set (a := ⟨q, 1, none⟩) (fun e => e rfl) (.slice a' (ws.length + 1) cap')
  have hown2 := hown'.set (a := ⟨q, 1, none⟩) (fun e => e.1 rfl) (.slice a' (ws.length + 1) cap')
  have hfr : Fr (drS q lv (.slice a ws.length cap)) w w1 := ((Fr.refl _ w).alloc _).grown hgrow (fun k' hk' => .inl (.inr (.inr hk')))
  have hfr2 := hfr.setCell (p := ⟨q, 1, none⟩) (.inl (.inl rfl)) (.slice a' (ws.length + 1) cap')
  have hb2 := hown'.blk
  clear hw hw1 hd1 how how1 hs1 hown' hgrow h hh1 hfr hl1 hl2
  go_wp2_with fail
  go_end0
  refine ⟨⟨_, rfl⟩, _, ⟨hset, hl3, ?_, ?_, ?_⟩, fun b hb => (hb2 b hb).1.2, hfr2⟩
  · have := hown2.mono (F' := fun g => g ≠ q) (fun g hg => hg.1)
    have e : wcells (ws ++ [(k, s)]) = wcells ws ++ [.int .i64 (k : Int), .string s] := by rw [wcells_append]; rfl
    rw [e]
    simpa using this
  · intro k' h1 h2
    rcases (hb2 k' h2).1.2 with e | e
    · exact hdis k' h1 e
    · have := (hll k' h1).2
      omega
  · intro x hx
    rcases List.mem_append.1 hx with hx | hx
    · exact hinr x hx
    · simp at hx; subst hx; exact hk

/-- A place in a slice that is owned. -/
theorem Ow.addr {F : Nat → Prop} {w : World} {e : TypeId} {size : Nat} {a : Option Addr} {cap n : Nat} {xs : List Value} (h : Ow F w e size (.slice a n cap) n xs) (hn : 0 < n) :
    ∃ g off, a = some ⟨g, off, none⟩ := by
  rcases h.2 with ⟨_, hn0⟩ | ⟨g, off, cap', cur, he, _⟩
  · omega
  · simp only [Value.slice.injEq] at he
    exact ⟨g, off, he.1⟩
theorem Ow.get {F : Nat → Prop} {w : World} {e : TypeId} {size : Nat} {g off cap n : Nat} {xs : List Value} (h : Ow F w e size (.slice (some ⟨g, off, none⟩) n cap) n xs) {j : Nat} {v : Value} (hj : xs[j]? = some v) : w.cell? ⟨g, off + j, none⟩ = some v := by
  obtain ⟨hl, rfl⟩ := List.getElem?_eq_some_iff.1 hj
  rcases h.cells with hx | ⟨g', off', he, _, _, hc⟩
  · subst hx; simp at hl
  · simp only [Option.some.injEq, Addr.mk.injEq] at he
    obtain ⟨rfl, rfl, _⟩ := he
    exact hc j hl

set_option maxRecDepth 100000 in
set_option maxHeartbeats 1000000 in
theorem rread_any (q : Nat) (lv wv : Value) (ls : List ByteArray) (ws : List (Nat × ByteArray)) (k : Nat) (w : World) (h : DrAt w q lv wv ls ws) (hk : k < ls.length) :
    Calls Tryz.prog 66 #[.pointer (some ⟨q, 0, none⟩), .int .i64 (k : Int)] w fun e w' => e = .returned (.string (rdW ws k (ls.getD k ByteArray.empty))) ∧ w = w' := by
  obtain ⟨la, lcap, rfl⟩ := h.l.shape
  obtain ⟨wa, wcap, rfl⟩ := h.wait.shape
  have hc0 : w.cell? ⟨q, 0, none⟩ = some (.slice la ls.length lcap) := h.head.cell rfl
  have hc1 : w.cell? ⟨q, 1, none⟩ = some (.slice wa ws.length wcap) := h.head.cell rfl
  obtain ⟨g, off, rfl⟩ := h.l.addr (by omega)
  have hcx := h.l.get (j := k) (v := .string (ls.getD k ByteArray.empty)) (by simp [List.getD_eq_getElem?_getD, List.getElem?_eq_getElem hk])
  have hm := h.wait.sl.le
  have hm2 := h.l.sl.le
  have q1 : (0 : Int) ≤ (k : Int) := by omega
  have q2 : (k : Int) < (ls.length : Int) := by omega
  obtain ⟨d, hd⟩ : ∃ d, ls.getD k ByteArray.empty = d := ⟨_, rfl⟩
  have HD : Hid (ls[k] = d) := hidd (by rw [← hd]; simp [List.getD_eq_getElem?_getD, List.getElem?_eq_getElem hk])
  rw [hd] at hcx
  clear hd
  go_enter Tryz.func66, Tryz.ntmps66
  go_wp2_with fail
  go_loop [5, 6] (fun s i => ∃ j : Nat, j ≤ ws.length ∧ i = .int .i64 (j : Int) ∧ s = .string (rdW (ws.take j) k d)) (fun _ i => ws.length - (intOf i).toNat)
  case atStart => exact ⟨0, Nat.zero_le _, rfl, by simp [rdW]⟩
  case round =>
    obtain ⟨j, hj, rfl, rfl⟩ := hrel
    by_cases hlt : j < ws.length
    · obtain ⟨b, boff, rfl⟩ := h.wait.addr (by omega)
      obtain ⟨w1, w2⟩ := wcells_at ws j hlt
      have e1 := h.wait.get w1
      have e2 : w.cell? ⟨b, boff + j * 2 + 1, none⟩ = _ := h.wait.get w2
      have q3 : (0 : Int) ≤ (j : Int) := by omega
      have q4 : (j : Int) < (ws.length : Int) := by omega
      by_cases hx : ws[j].1 = k
      · have hxe : ((ws[j].1 : Int) == (k : Int)) = true := by simp [hx]
        have HT := hidd (rdW_take_hit (d := d) hlt hx)
        clear w1 w2 hx
        generalize ws[j] = x at *
        go_wp2_with fail
        go_round
        case rel => exact ⟨j + 1, hlt, by go_num, by rw [HT.out]⟩
        case measure => simp [intOf]; omega
      · have hxe : ((ws[j].1 : Int) == (k : Int)) = false := by simp; omega
        have HT := hidd (rdW_take_miss (d := d) hlt hx)
        clear w1 w2 hx
        generalize ws[j] = x at *
        go_wp2_with fail
        go_round
        case rel => exact ⟨j + 1, hlt, by go_num, by rw [HT.out]⟩
        case measure => simp [intOf]; omega
    · obtain rfl : ws.length = j := by omega
      go_wp2_with fail
      go_ret
      refine ⟨?_, rfl⟩
      rw [HD.out]
      rfl
end Go.Proofs.YtcpilhembdphoaaGreatDoor
