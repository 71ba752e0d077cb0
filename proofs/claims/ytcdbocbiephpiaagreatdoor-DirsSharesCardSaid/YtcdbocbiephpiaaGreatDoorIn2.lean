/- The inode table writes a text into blocks of the disk. Condition: the disk waits for nothing, the blocks are some of it. -/
import Derived.Test.YtcdbocbiephpiaaGreatDoorIn1
import Derived.Test.YtcdbocbiephpiaaGreatDoorMp
import Derived.Lib.Split
import Derived.WalkLawsBesides
namespace Go.Proofs.YtcdbocbiephpiaaGreatDoor
open Go.RowKit

theorem crTo_wsN (ls : List ByteArray) (l : List Nat) (d : ByteArray) (n : Nat) : ∀ j, j ≤ n → crTo (fun _ => true) ls (wsN l d n) j = lsN ls l d j
  | 0, _ => rfl
  | j + 1, h => by
    have hj : j < (wsN l d n).length := by rw [wsN_len]; omega
    rw [crTo_y hj rfl, crTo_wsN ls l d n j (by omega), lsN]
    simp [wsN]
theorem repl_ba (c : Nat) : (⟨(Lib.repeatL [0] c).toArray⟩ : ByteArray) = zb c := by rw [rep_zero]; rfl
theorem rep0 (c : Nat) (w : World) (hc : c ≤ 16) : Calls Tryz.prog 76 #[.string ⟨#[0]⟩, .int .i64 (c : Int)] w fun e w' => e = .returned (.string (zb c)) ∧ Below w.heap.size w w' := by
  refine (Tryz.strings_Repeat ⟨#[0]⟩ c w (by omega) (by show 1 * c ≤ _; omega)).mono ?_
  rintro e w' ⟨rfl, hb⟩
  refine ⟨?_, hb⟩
  rw [← repl_ba]
theorem rest_list {d D : ByteArray} {j : Nat} (h : D.data.toList = d.data.toList.drop (16 * j)) : D.size = d.size - 16 * j := by
  rw [Lib.size_eq, h, List.length_drop, ← Lib.size_eq]
theorem ba_eq {a b : ByteArray} (h : a.data.toList = b.data.toList) : a = b := Go.WideShapes.bytes_inj h
theorem piece_full {d D : ByteArray} {j : Nat} (h : D.data.toList = d.data.toList.drop (16 * j)) (hs : 16 ≤ D.size) : D.extract 0 16 ++ zb 0 = pcB d j := ba_eq (by
  have h1 : ((d.data.toList.drop (16 * j)).take 16).length = 16 := by rw [← h, List.length_take, ← Lib.size_eq]; omega
  rw [pcB_list, pcL, h1, ByteArray.data_append, Array.toList_append, Lib.extract_from_zero, h]
  simp [zb])
theorem piece_last {d D : ByteArray} {j : Nat} (h : D.data.toList = d.data.toList.drop (16 * j)) (hs : D.size < 16) : D ++ zb (16 - D.size) = pcB d j := ba_eq (by
  have h1 : (d.data.toList.drop (16 * j)).take 16 = D.data.toList := by rw [← h]; exact List.take_of_length_le (by rw [← Lib.size_eq]; omega)
  rw [pcB_list, pcL, h1, ByteArray.data_append, Array.toList_append, ← Lib.size_eq]
  simp [zb])

set_option maxRecDepth 100000 in
set_option maxHeartbeats 8000000 in
theorem iwrite_ok (t p r : Nat) (lv : Value) (bl : List Nat) (data : ByteArray) (ls : List ByteArray) (w : World) (htc : w.cell? ⟨t, 0, none⟩ = some (.pointer (some ⟨p, 0, none⟩))) (hdk : DkAt w p r (.slice none 0 0) ls []) (hlv : Sl w lv (ints bl) bl.length 1)
    (hlb : ∀ k, lv.ownBlock = some k → k ≠ p ∧ k ≠ r) (hb : ∀ b ∈ bl, b < ls.length) (hn : bl.length = needN data.size) (hds : data.size ≤ 2000) (htp : t ≠ p ∧ t ≠ r) :
    Calls Tryz.prog 57 #[.pointer (some ⟨t, 0, none⟩), lv, .string data] w fun e w' => (∃ u, e = .returned u) ∧ DkAt w' p r (.slice none 0 0) (lsN ls bl data bl.length) [] ∧ Fr (fun b => b = p ∨ b = r) w w' := by
  obtain ⟨la, lcap, rfl, -⟩ := id hlv
  have hbl125 : bl.length ≤ 125 := by rw [hn]; exact needN_le _ hds
  have HN := hidd hn
  clear hn
  have htl := World.block_lt_of_cell? w _ htc
  simp only at htl
  go_enter Tryz.func57, Tryz.ntmps57
  go_wp2_with fail
  go_loopw [2, 11] (fun dv i wr => ∃ (j : Nat) (v : Value) (D : ByteArray), j ≤ bl.length ∧ i = .int .i64 (j : Int) ∧ dv = .string D ∧ D.data.toList = data.data.toList.drop (16 * j) ∧ DkAt wr p r v ls (wsN bl data j) ∧ (∀ b, v.ownBlock = some b → w.heap.size ≤ b) ∧ Fr (fun b => b = p ∨ b = r) w wr) (fun _ i _ => bl.length - (intOf i).toNat)
  case atStart => exact ⟨0, _, data, Nat.zero_le _, rfl, rfl, by simp, hdk, fun b hb => by simp [Value.ownBlock] at hb, Fr.refl _ _⟩
  case round =>
    obtain ⟨j, v, D, hj, rfl, rfl, hD, hdr, hvl, hfr⟩ := hrel
    have htr : wr.cell? ⟨t, 0, none⟩ = some (.pointer (some ⟨p, 0, none⟩)) := hfr.cell htc (by rintro (h | h); exact htp.1 h; exact htp.2 h)
    have hsr := hlv.fr hfr (fun k hk e => by rcases e with e | e; exact (hlb k hk).1 e; exact (hlb k hk).2 e)
    have hDs := rest_list hD
    have hszr := hfr.size
    by_cases hlt : j < bl.length
    · obtain ⟨sb, so, rfl, -, hc, hcell⟩ := hsr.at1 hlt
      rw [show (ints bl)[j] = .int .i64 ((bl[j] : Nat) : Int) by simp [ints]] at hcell
      have hk : bl[j] < ls.length := hb _ (List.getElem_mem _)
      have hg : bl.getD j 0 = bl[j] := by rw [List.getD_eq_getElem?_getD, List.getElem?_eq_getElem hlt]; rfl
      have hws := wsN_succ bl data j
      rw [hg] at hws
      have hlo : 16 * j < data.size := needN_lo data.size (by rw [← (show bl.length = needN data.size from HN)]; exact hlt)
      have q1 : (0 : Int) ≤ (j : Int) := by omega
      have q2 : (j : Int) < (bl.length : Int) := by omega
      have hwl := wsN_len bl data j
      have hps := pcB_size data j
      generalize bl[j] = k at *
      clear hg hc
      have HW := hidd hws
      have HPS := hidd hps
      have HWL := hidd hwl
      by_cases h16 : 16 ≤ D.size
      · have HP := hidd (piece_full hD h16)
        have hm : min (D.size : Int) 16 = 16 := by omega
        have r1 : (16 : Int) ≤ (D.size : Int) := by omega
        have HD2 : Hid ((D.extract 16 D.size).data.toList = data.data.toList.drop (16 * (j + 1))) := hidd (by
          rw [Lib.extract_to_end, hD, List.drop_drop]; congr 1)
        have HDS := hidd hDs
        clear hws hps hwl hD hDs
        go_wp2_with fail
        have HB2 : Hid (∀ w9, Below wr.heap.size wr.drew w9 → DkAt w9 p r v ls (wsN bl data j) ∧ w9.cell? ⟨t, 0, none⟩ = some (.pointer (some ⟨p, 0, none⟩)) ∧ Fr (fun b => b = p ∨ b = r) w w9) := hidd (fun w9 hw9 => ⟨hdr.ob ((Below.refl _ wr).drew.trans hw9) (Nat.le_refl _), (Fr.ob (S := fun _ => False) ((Below.refl _ wr).drew.trans hw9)).cell htr (fun x => x), hfr.trans (Fr.ob ((Below.refl _ wr).drew.trans hw9))⟩)
        have hcd : wr.drew.cell? ⟨t, 0, none⟩ = some (.pointer (some ⟨p, 0, none⟩)) := htr
        clear htr hdr hfr hlv hsr hcell hds q1 q2
        go_region_with (first
          | (go_at_call 76; refine (rep0 0 _ (by omega)).mono ?_; rintro e w9 ⟨rfl, hbl⟩; obtain ⟨hd3, hc3, hf3⟩ := HB2.out w9 hbl)
          | (go_at_call 82; rw [HP.out]; refine (write_ok p r _ ls (wsN bl data j) k (pcB data j) _ hd3 hk HPS.out (by rw [HWL.out]; omega)).mono ?_; rintro e w8 ⟨rfl, v', hdk2, hv2, hf2⟩))
        all_goals
          go_wp2_with fail
          go_roundw
          case rel => exact ⟨j + 1, v', _, by omega, by go_num, rfl, HD2.out, by rw [HW.out]; exact hdk2, fun b hb => by
            rcases hv2 b hb with h | h
            · exact hvl b h
            · have := hf3.size; omega, hf3.trans' hf2 (fun _ _ x => x) (fun i hi hx => by
            rcases hx with h | h | h
            · exact .inl h
            · exact .inr h
            · have := hvl i h; omega)⟩
          case measure => simp [intOf]; omega
      · have hext : D.extract 0 D.size = D := by simp
        have HP := hidd (piece_last hD (by omega))
        have hm : min (D.size : Int) 16 = (D.size : Int) := by omega
        have r2 : ¬ (16 : Int) ≤ (D.size : Int) := by omega
        obtain ⟨c, hc⟩ : ∃ c, c = 16 - D.size := ⟨_, rfl⟩
        have hwr : IntKind.i64.wrap (16 - (D.size : Int)) = (c : Int) := by rw [i64_in _ (by omega)]; omega
        have HD2 : Hid (ByteArray.empty.data.toList = data.data.toList.drop (16 * (j + 1))) := hidd (by
          rw [List.drop_eq_nil_of_le (by rw [← Lib.size_eq]; omega)]; rfl)
        have HDS := hidd hDs
        rw [← hc] at HP
        have HC : Hid (c ≤ 16) := hidd (by omega)
        have hcat : ¬ 9223372036854775807 < D.size + (zb c).size := by rw [zb_size]; omega
        clear hc hext
        clear hws hps hwl hD hDs
        have HB2 : Hid (∀ w9, Below wr.heap.size wr.drew w9 → DkAt w9 p r v ls (wsN bl data j) ∧ w9.cell? ⟨t, 0, none⟩ = some (.pointer (some ⟨p, 0, none⟩)) ∧ Fr (fun b => b = p ∨ b = r) w w9) := hidd (fun w9 hw9 => ⟨hdr.ob ((Below.refl _ wr).drew.trans hw9) (Nat.le_refl _), (Fr.ob (S := fun _ => False) ((Below.refl _ wr).drew.trans hw9)).cell htr (fun x => x), hfr.trans (Fr.ob ((Below.refl _ wr).drew.trans hw9))⟩)
        have hcd : wr.drew.cell? ⟨t, 0, none⟩ = some (.pointer (some ⟨p, 0, none⟩)) := htr
        go_wp2_with fail
        clear htr hdr hfr hlv hsr hcell hds q1 q2
        go_region_with (first
          | (go_at_call 76; refine (rep0 c _ HC.out).mono ?_; rintro e w9 ⟨rfl, hbl⟩; obtain ⟨hd3, hc3, hf3⟩ := HB2.out w9 hbl)
          | (go_at_call 82; rw [HP.out]; refine (write_ok p r _ ls (wsN bl data j) k (pcB data j) _ hd3 hk HPS.out (by rw [HWL.out]; omega)).mono ?_; rintro e w8 ⟨rfl, v', hdk2, hv2, hf2⟩))
        all_goals
          go_wp2_with fail
          go_roundw
          case rel => exact ⟨j + 1, v', _, by omega, by go_num, rfl, HD2.out, by rw [HW.out]; exact hdk2, fun b hb => by
            rcases hv2 b hb with h | h
            · exact hvl b h
            · have := hf3.size; omega, hf3.trans' hf2 (fun _ _ x => x) (fun i hi hx => by
            rcases hx with h | h | h
            · exact .inl h
            · exact .inr h
            · have := hvl i h; omega)⟩
          case measure => simp [intOf]; omega
    · obtain rfl : j = bl.length := by omega
      have hq : ¬ ((bl.length : Int) < (bl.length : Int)) := by omega
      clear hD hDs hlt
      go_wp2_with fail
      refine (barrier_any p r v ls _ _ hdr).mono ?_
      rintro e w8 ⟨⟨u, rfl⟩, hdk2, hf2⟩
      rw [wsN_len, crTo_wsN _ _ _ _ _ (Nat.le_refl _)] at hdk2
      go_wp2_with fail
      go_end0
      exact ⟨⟨_, rfl⟩, hdk2, hfr.trans hf2⟩
end Go.Proofs.YtcdbocbiephpiaaGreatDoor
