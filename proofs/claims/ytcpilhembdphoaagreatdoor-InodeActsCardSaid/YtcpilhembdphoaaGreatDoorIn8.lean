/- Make where it fails; a new table; the law's small functions. Condition: the table is one that New gave. -/
import Derived.Test.YtcpilhembdphoaaGreatDoorIn7
import Derived.Test.YtcpilhembdphoaaGreatDoorIn1
import Derived.Test.YtcpilhembdphoaaGreatDoorNd
import Derived.Test.YtcpilhembdphoaaGreatDoorLaw
namespace Go.Proofs.YtcpilhembdphoaaGreatDoor
open Go.RowKit

theorem make_big (t : Value) (data : ByteArray) (ex : Bool) (w : World) (E : Nat → Addr) (hd : 2000 < data.size) (hE : w.cell? ⟨0, 0, none⟩ = some (erv E 0)) :
    Calls Tryz.prog 7 #[t, .string data, .bool ex] w fun e w' => e = .returned (.tuple #[.int .i64 0, erv E 0]) ∧ Below w.heap.size w w' := by
  have hd1 : (2000 : Int) < (data.size : Int) := by omega
  unfold erv at *
  have hE2 : w.drew.cell? ⟨0, 0, none⟩ = some (.iface 202 (.pointer (some (E 0)))) := hE
  go_enter Tryz.func7, Tryz.ntmps7
  go_wp2_with fail
  go_quiet (fail)
  go_wp2_with fail
  go_ret2
  exact ⟨rfl, Below.drewN _ _ _⟩

set_option maxHeartbeats 1000000 in
theorem make_full {pc : Prop} (B t p r ps rs m N : Nat) (T : Nat → Option Ino) (us : List Bool) (ls : List ByteArray) (data : ByteArray) (ex : Bool) (w : World) (h : TbAt pc w B t p r ps rs m N T us ls) (hds : data.size ≤ 2000) (hk : ¬ needN data.size ≤ nfree us) (E : Nat → Addr) (G : List Nat) (B0 : Nat) (hE : Env G B0 w E) (hg : 5 ∈ G) :
    Calls Tryz.prog 7 #[.pointer (some ⟨t, 0, none⟩), .string data, .bool ex] w fun e w' => e = .returned (.tuple #[.int .i64 0, erv E 5]) ∧ Below w.heap.size w w' := by
  have hd1 : ¬ (2000 : Int) < (data.size : Int) := by omega
  have hc1 := h.c1
  obtain ⟨kn, hkn⟩ : ∃ kn, kn = needN data.size := ⟨_, rfl⟩
  have HTK : Hid (Calls Tryz.prog 24 #[.pointer (some ⟨ps, 0, none⟩), .int .i64 (kn : Int)] w.drew fun e w' => e = .returned (.tuple #[.slice none 0 0, erv E 5]) ∧ Below w.drew.heap.size w.drew w') := hidd (by
    rw [hkn]; exact take_full E ps rs us _ w.drew h.sp.drew (by omega) (by omega) B0 G (hE.ob ((Below.refl _ w).drew)) hg)
  have HND : Hid (∀ W, Calls Tryz.prog 25 #[.int .i64 (data.size : Int)] W fun e w' => e = .returned (.int .i64 (kn : Int)) ∧ W = w') := hidd (fun W => by rw [hkn]; exact need_nat _ W hds)
  have HC1 : Hid (∀ W, Below w.heap.size w.drew W → W.cell? ⟨t, 1, none⟩ = some (.pointer (some ⟨ps, 0, none⟩))) := hidd (fun W hW => (h.ob ((Below.refl _ w).drew.trans hW)).c1)
  unfold erv at *
  clear h hkn hk hE
  go_enter Tryz.func7, Tryz.ntmps7
  go_wp2_with fail
  go_region_held3 (fun W => W.cell? ⟨t, 1, none⟩ = some (.pointer (some ⟨ps, 0, none⟩)))
    (first | exact hc1 | exact HC1.out _ hf1)
    (first | (go_at_call 25; refine (HND.out _).mono ?_; rintro e w9 ⟨rfl, rfl⟩) | (go_at_call 24; refine HTK.out.mono ?_; rintro e w1 ⟨rfl, hf1⟩))
  go_wp2_with fail
  go_ret2
  exact ⟨rfl, (Below.refl _ w).drew.trans hf1⟩

/-- A new table. -/
def TnPost (pc : Prop) (n : Nat) (w : World) (e : Ending) (w' : World) : Prop := ∃ t p r ps rs m v, e = .returned (.tuple #[.pointer (some ⟨t, 0, none⟩), v, .bool true]) ∧
  TbAt pc w' w.heap.size t p r ps rs m 0 (fun _ => none) (List.replicate n false) (List.replicate n (zb 16)) ∧ Below w.heap.size w w'
theorem tb_start {pc : Prop} {n p r t ps rs m B : Nat} {w : World} (hdk : DkAt w p r (.slice none 0 0) (List.replicate n (zb 16)) []) (hb : Blk w t [.pointer (some ⟨p, 0, none⟩), .pointer (some ⟨ps, 0, none⟩), .map (some m)] 68) (hs : SpAt w ps rs (List.replicate n false)) (hm : w.heap[m]? = some (.map #[] 0))
    (hB : B ≤ p ∧ B ≤ r ∧ B ≤ ps ∧ B ≤ rs ∧ B ≤ m ∧ B ≤ t) : TbAt pc w B t p r ps rs m 0 (fun _ => none) (List.replicate n false) (List.replicate n (zb 16)) where
  tab := hb
  dk := hdk
  sp := hs
  mp := ⟨0, Nat.le_refl _, by
    have := MapIs.of_heap hm
    have e : mapOf (fun _ => none) = fun _ => none := by funext i; simp [mapOf]
    rw [e]; exact this⟩
  ino := fun _ _ h => by cases h
  ok := fun _ _ h => by cases h
  inj := fun _ _ _ _ h => by cases h
  dis := fun _ _ _ _ h => by cases h
  usd := fun b => by
    constructor
    · intro h
      rw [List.getD_eq_getElem?_getD] at h
      by_cases hb : b < n
      · rw [List.getElem?_eq_getElem (by simpa using hb)] at h; simp at h
      · rw [List.getElem?_eq_none (by simp; omega)] at h; cases h
    · rintro ⟨k, x, h, -⟩; cases h
  len := by simp
  fin := ⟨0, Nat.le_refl _, fun _ _ => rfl⟩
  base := hB
  bases := fun _ _ h => by cases h

set_option maxRecDepth 100000 in
set_option maxHeartbeats 1000000 in
theorem tableOf_ok {pc : Prop} (n : Nat) (w : World) (h1 : 1 ≤ n) (h2 : n ≤ 512) : Calls Tryz.prog 6 #[.int .i64 (n : Int)] w (TnPost pc n w) := by
  go_enter Tryz.func6, Tryz.ntmps6
  go_wp2_with fail
  refine (rnew_any n _ h2).mono ?_
  rintro e w1 ⟨⟨q, rfl⟩, hb1⟩
  go_wp2_with fail
  refine (dnew_ok n _ h1 h2).mono ?_
  rintro e w2 ⟨p, r, rfl, hdk, g1, g2, hb2⟩
  have hB2 : Below w.heap.size w w2 := (hb1.alloc hb1.size (.cells #[.pointer (some ⟨q, 0, none⟩), .slice none 0 0] 61)).trans (hb2.mono (by have := hb1.size; simp; omega))
  have HB2 := hidd hB2
  have HG : Hid (w.heap.size ≤ p ∧ w.heap.size ≤ r) := hidd (by have := hb1.size; simp at g1 g2; omega)
  have hlen : (List.replicate n (zb 16)).length = n := by simp
  have hin := inew_ok p r _ (List.replicate n (zb 16)) [] w2 hdk (by rw [hlen]; exact h1) (by rw [hlen]; exact h2)
  rw [hlen] at hin
  clear hb1 hb2 hB2 g1 g2
  go_wp2_with fail
  refine hin.mono ?_
  rintro e w3 ⟨t, ps, rs, m, rfl, hb, hs, hm, e1, e2, e3, e4, -, -, -, -, -, hb3⟩
  have hsz := HB2.out.size
  have HP : Hid (TnPost pc n w (.returned (.tuple #[.pointer (some ⟨t, 0, none⟩), .pointer (some ⟨w1.heap.size, 0, none⟩), .bool true])) w3) := hidd
    ⟨t, p, r, ps, rs, m, _, rfl, tb_start (hdk.ob hb3 (Nat.le_refl _)) hb hs hm (by have := HG.out; omega), HB2.out.trans (hb3.mono hsz)⟩
  clear hin hdk hb hs hm hb3
  go_wp2_with fail
  refine bodyPost_ret (results_tmp3 rfl _ _ _) rfl ?_
  exact HP

set_option maxRecDepth 100000 in
set_option maxHeartbeats 2000000 in
theorem made_true (w : World) : Calls Tryz.prog 16 #[] w fun e w' => e = .returned (.bool true) ∧ Below w.heap.size w w' := by
  go_enter Tryz.func16, Tryz.ntmps16
  go_wp2_with fail
  refine (dnew_ok 4 w (by omega) (by omega)).mono ?_
  rintro e w2 ⟨p, r, rfl, hdk, g1, g2, hb2⟩
  have hin := inew_ok p r _ (List.replicate 4 (zb 16)) [] w2 hdk (by simp) (by simp)
  rw [show (List.replicate 4 (zb 16)).length = 4 from rfl] at hin
  go_wp2_with fail
  refine hin.mono ?_
  rintro e w3 ⟨t, ps, rs, m, rfl, hb, hs, hm, e1, e2, e3, e4, -, -, -, -, -, hb3⟩
  have hsz := hb2.size
  have htb : TbAt True w3 w.heap.size t p r ps rs m 0 (fun _ => none) (List.replicate 4 false) (List.replicate 4 (zb 16)) := tb_start (hdk.ob hb3 (Nat.le_refl _)) hb hs hm (by omega)
  have hB3 : Below w.heap.size w w3 := hb2.trans (hb3.mono hsz)
  clear hin hdk hb hs hm hb3 hb2 e1 e2 e3 e4 g1 g2
  go_wp2_with fail
  refine (make_ok w.heap.size t p r ps rs m 0 _ _ _ ⟨#[97, 98, 99]⟩ true w3 htb (by omega) hB3.size (by decide) (by decide)).mono ?_
  rintro e w4 ⟨k0, x, rfl, hk0, -, -, hxd, hxe, hxl, hxb, htb4, hf4, -⟩
  obtain rfl : k0 = 0 := by omega
  have hbl : x.bl = [0] := by rw [hxb]; decide
  have hfree : nfree (tk (List.replicate 4 false) (needN (⟨#[97, 98, 99]⟩ : ByteArray).size) (List.replicate 4 false).length).2 = 3 := by decide
  have hB4 : Below w.heap.size w w4 := hB3.trans (hf4.below hB3.size (by rintro i (e | e | e | e) <;> have := htb.base <;> omega))
  clear htb hf4 hxb hB3
  go_wp2_with fail
  refine (iread_ok w.heap.size t p r ps rs m _ _ _ _ 0 x w4 htb4 (by omega) (upd_same _ _ _) trivial).mono ?_
  rintro e w5 ⟨rfl, hb5⟩
  have htb5 := htb4.ob hb5
  have hB5 := hB4.trans (hb5.mono hB4.size)
  rw [hxd]
  clear htb4 hb5 hB4
  go_wp2_with fail
  refine (stat_ok w.heap.size t p r ps rs m _ _ _ _ 0 x w5 htb5 (by omega) (upd_same _ _ _)).mono ?_
  rintro e w6 ⟨a, cap, rfl, ho6, hb6⟩
  have htb6 := htb5.ob hb6
  have hB6 := hB5.trans (hb6.mono hB5.size)
  rw [hxd, hxe, hxl]
  rw [hbl] at ho6
  rw [hbl]
  clear htb5 hb6 hB5
  go_wp2_with fail
  have hB7 := (hB6.alloc hB6.size (.cells #[.int .i64 3, .int .i64 1, .bool true, .slice a 1 cap, .int .u32 (crc [97, 98, 99] : Nat)] 34)).alloc (by have := hB6.size; simp; omega) (.cells #[.int .i64 0] 3)
  have htb7 := (htb6.ob ((Below.refl _ w6).alloc (Nat.le_refl _) (.cells #[.int .i64 3, .int .i64 1, .bool true, .slice a 1 cap, .int .u32 (crc [97, 98, 99] : Nat)] 34))).ob ((Below.refl _ _).alloc (Nat.le_refl _) (.cells #[.int .i64 0] 3))
  have hs1 := ((ho6.alloc (.cells #[.int .i64 3, .int .i64 1, .bool true, .slice a 1 cap, .int .u32 (crc [97, 98, 99] : Nat)] 34)).alloc (.cells #[.int .i64 0] 3)).sl
  have hs2 := Sl.of_owns ((Blk.new (w6.alloc (.cells #[.int .i64 3, .int .i64 1, .bool true, .slice a 1 cap, .int .u32 (crc [97, 98, 99] : Nat)] 34)) [.int .i64 0] 3).owns (base := 0) (Nat.zero_le _) (by decide))
  have hsz6 : (w6.alloc (.cells #[.int .i64 3, .int .i64 1, .bool true, .slice a 1 cap, .int .u32 (crc [97, 98, 99] : Nat)] 34)).heap.size = w6.heap.size + 1 := by simp
  rw [hsz6] at hs2
  refine (sameInts_any (.slice a 1 cap) (.slice (some ⟨w6.heap.size + 1, 0, none⟩) 1 1) [0] [0] _ hs1 hs2).mono ?_
  rintro e w8 ⟨rfl, hb8⟩
  have htb8 := htb7.ob hb8
  have hB8 := hB7.trans (hb8.mono hB7.size)
  have hde : decide (([0] : List Int) = [0]) = true := by decide
  rw [hde]
  clear htb7 hB7 hB6 htb6 hs1 hs2 ho6 hb8 hsz6
  go_wp2_with fail
  refine (ifree_any t p ps rs m _ w8 htb8.tab htb8.sp).mono ?_
  rintro e w9 ⟨rfl, hb9⟩
  rw [hfree]
  have hB9 := hB8.trans (hb9.mono hB8.size)
  clear hB8 hb9 htb8
  go_wp2_with fail
  go_ret
  exact ⟨rfl, hB9⟩
end Go.Proofs.YtcpilhembdphoaaGreatDoor
