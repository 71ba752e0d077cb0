/- The contract of disk.turned. Condition: the bit lies in the text. -/
import Derived.Test.YtcpilhembdphoaaGreatDoorB
import Derived.Test.YtcpilhembdphoaaGreatDoorDkP
import Derived.Test.YtcpilhembdphoaaGreatDoorProg
import Derived.Laws.BitsAll
import Derived.Laws.BitsAllLaws
import Derived.Laws.IdiomStrings
import Derived.Lib.ConvBytes
import Derived.RegionTactic
import Derived.BigRegion
namespace Go.Proofs.YtcpilhembdphoaaGreatDoor
open Go.RowKit

theorem bytesWorld_below (w : World) (e : TypeId) (s : ByteArray) : Below w.heap.size w (Lib.bytesWorld w e s) := by
  refine ⟨rfl, rfl, rfl, by rw [Lib.bytesWorld_size]; omega, fun k hk => Lib.bytesWorld_at_old w e s k hk⟩
theorem bytesWorld_frozen (w : World) (e : TypeId) (s : ByteArray) (j : Nat) (hj : j < s.size) : (Lib.bytesWorld w e s).frozen? ⟨w.heap.size, j, none⟩ = false := by
  have h1 : j < (Lib.bytesCells w e s).size := by
    unfold Lib.bytesCells
    simp
    have : s.data.size = s.size := rfl
    omega
  simp [World.frozen?, Lib.bytesWorld_at_new]
  omega

theorem cell_other {w : World} {g q j : Nat} {v : Value} (h : q ≠ j) : (w.setCell ⟨g, q, none⟩ v).cell? ⟨g, j, none⟩ = w.cell? ⟨g, j, none⟩ := by
  exact World.cell?_setCell_other _ _ _ _ (by intro e; cases e; exact h rfl)
theorem turn_list (s : ByteArray) (bit q m : Nat) (hq : bit / 8 = q) (hm : bit % 8 = m) : turn s bit = ⟨(s.data.toList.modify q (fun c => c ^^^ UInt8.ofNat (2 ^ m))).toArray⟩ := by subst hq hm; rfl

set_option maxRecDepth 100000 in
theorem turned_any (s : ByteArray) (bit : Nat) (w : World) (hb : bit < 128) (hs : s.size = 16) :
    Calls Tryz.prog 30 #[.string s, .int .i64 (bit : Int)] w fun e w' => e = .returned (.string (turn s bit)) ∧ Below w.heap.size w w' := by
  have kc := Lib.run_convert_string_bytes (P := Tryz.prog) w 9 85 5 s Tryz.underlying9 Tryz.underlying85 Tryz.underlying5
  obtain ⟨q, hq⟩ : ∃ q, bit / 8 = q := ⟨_, rfl⟩
  have hq16 : q < 16 := by omega
  have hqs : q < s.size := by omega
  have hcell := Lib.bytesWorld_cell w 5 s q hqs
  have hcells := Lib.bytesWorld_cell w 5 s
  have hfz := bytesWorld_frozen w 5 s q hqs
  have hbl := bytesWorld_below w 5 s
  have hzz := Lib.bytesWorld_size w 5 s
  have hcb := (s.data.toList.getD q 0).toNat_lt
  have hcq : s.data.toList.getD q 0 = s.data.toList[q]'(by simpa using hqs) := by rw [List.getD_eq_getElem?_getD, List.getElem?_eq_getElem]; rfl
  have hmc : bit % 8 = 0 ∨ bit % 8 = 1 ∨ bit % 8 = 2 ∨ bit % 8 = 3 ∨ bit % 8 = 4 ∨ bit % 8 = 5 ∨ bit % 8 = 6 ∨ bit % 8 = 7 := by omega
  rcases hmc with hm | hm | hm | hm | hm | hm | hm | hm
  all_goals
    have HT := hidd (turn_list s bit q _ hq hm)
    have hqi : (bit : Int) / 8 = (q : Int) := by omega
    have hx := u8_xor_nat (s.data.toList.getD q 0).toNat (2 ^ (bit % 8)) (by omega) (by rw [hm]; decide)
    rw [hm] at hx
    have hmi : (bit : Int) % 8 = ((bit % 8 : Nat) : Int) := by omega
    rw [hm] at hmi
    have q1 : (0 : Int) ≤ (bit : Int) := by omega
    have q2 : (bit : Int) < 128 := by omega
    have q3 : (q : Int) < (s.size : Int) := by omega
    have q4 : (0 : Int) ≤ (q : Int) := by omega
    have HQ := hidd hq
    have HM := hidd hm
    have HS := hidd hs
    have HCQ := hidd hcq
    clear hs hq hm hcq
    generalize s.data.toList.getD q 0 = c at *
    have HX := hidd hx
    have HCELLS := hidd hcells
    clear hx hcells
    generalize grownCap w s.size 0 5 = cap at *
    go_enter Tryz.func30, Tryz.ntmps30
    go_wp2_with fail
    generalize Lib.bytesWorld w 5 s = W1 at *
    have hbl' : Below w.heap.size w W1 := hbl
    have HBL := hidd hbl'
    have hgw := hbl.size
    clear hbl hbl'
    generalize hg : w.heap.size = g at *
    have HG := hidd hg
    clear hg hzz
    go_region
    generalize hV : bits .xor .u8 (c.toNat : Int) _ = V
    have hV2 := hV.symm.trans HX.out
    clear hV kc
    have hW2 : ∀ j (hj : j < (s.data.toList.modify q (fun c => c ^^^ UInt8.ofNat (2 ^ (bit % 8)))).length), ((W1.setCell ⟨g, q, none⟩ (.int .u8 V)).drew).cell? ((⟨g, 0, none⟩ : Addr).add j) = some (.int .u8 ((s.data.toList.modify q (fun c => c ^^^ UInt8.ofNat (2 ^ (bit % 8))))[j].toNat : Int)) := by
      intro j hj
      have hj' : j < s.size := by simpa using hj
      have ea : (⟨g, 0, none⟩ : Addr).add j = ⟨g, j, none⟩ := by unfold Addr.add; split <;> simp_all
      rw [ea]
      show (W1.setCell ⟨g, q, none⟩ (.int .u8 V)).cell? ⟨g, j, none⟩ = _
      rw [List.getElem_modify]
      by_cases e : q = j
      · subst e
        rw [World.cell?_setCell_same' _ _ _ (by rw [hcell]; rfl), if_pos rfl, ← HCQ.out, hV2, HM.out]
        rw [UInt8.toNat_xor]
        rfl
      · rw [cell_other (by simpa using e), if_neg e, HCELLS.out j hj']
        simp [List.getD_eq_getElem?_getD, List.getElem?_eq_getElem (show j < s.data.toList.length by simpa using hj')]
    have hbl2 : Below g W1 ((W1.setCell ⟨g, q, none⟩ (.int .u8 V)).drew) := ((Below.refl _ _).setCell (p := ⟨g, q, none⟩) (Nat.le_refl _) _).drew
    generalize (W1.setCell ⟨g, q, none⟩ (.int .u8 V)).drew = W2 at *
    have kb := run_convert_bytes_back (P := Tryz.prog) W2 85 9 5 ⟨g, 0, none⟩ cap _ Tryz.underlying85 Tryz.underlying5 Tryz.underlying9 hW2
    rw [List.length_modify, show s.data.toList.length = s.size from by simp] at kb
    have HT2 := hidd (turn_list s bit q _ HQ.out rfl)
    generalize s.data.toList.modify q (fun c => c ^^^ UInt8.ofNat (2 ^ (bit % 8))) = l' at *
    clear hW2
    go_wp2_with fail
    go_ret
    refine ⟨?_, by rw [HG.out]; exact HBL.out.trans hbl2⟩
    show Ending.returned (.string ⟨l'.toArray⟩) = _
    rw [HT2.out]
end Go.Proofs.YtcpilhembdphoaaGreatDoor
