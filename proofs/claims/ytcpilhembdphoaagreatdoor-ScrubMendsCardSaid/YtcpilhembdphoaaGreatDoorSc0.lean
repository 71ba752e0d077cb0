/- What is read of blocks, in plain words: as it was written, after one bit has turned, after it was written again. No condition. -/
import Derived.Test.YtcpilhembdphoaaGreatDoorIr
import Derived.Test.YtcpilhembdphoaaGreatDoorCrB
import Derived.Test.YtcpilhembdphoaaGreatDoorDkP
namespace Go.Proofs.YtcpilhembdphoaaGreatDoor
open Go.RowKit

/-- Each of these blocks holds 16 bytes. -/
def S16 (ls : List ByteArray) (bl : List Nat) : Prop := ∀ b ∈ bl, (ls.getD b ByteArray.empty).size = 16
theorem getD_mem {bl : List Nat} {j : Nat} (h : j < bl.length) : bl.getD j 0 ∈ bl := by rw [List.getD_eq_getElem?_getD, List.getElem?_eq_getElem h]; exact List.getElem_mem _
theorem catL_get {ls : List ByteArray} {bl : List Nat} (h : S16 ls bl) : ∀ j, j ≤ bl.length → ∀ q, q < 16 * j → (catL ls bl j)[q]? = (ls.getD (bl.getD (q / 16) 0) ByteArray.empty).data.toList[q % 16]?
  | 0, _, q, hq => by omega
  | j + 1, hj, q, hq => by
    have hl := catL_len ls bl h j (by omega)
    rw [catL]
    by_cases hlt : q < 16 * j
    · rw [List.getElem?_append_left (by omega)]
      exact catL_get h j (by omega) q hlt
    · rw [List.getElem?_append_right (by omega), hl, show q / 16 = j by omega, show q - 16 * j = q % 16 by omega]
theorem catL_congr {ls ls' : List ByteArray} {bl : List Nat} (h : ∀ b ∈ bl, ls'.getD b ByteArray.empty = ls.getD b ByteArray.empty) : ∀ j, j ≤ bl.length → catL ls' bl j = catL ls bl j
  | 0, _ => rfl
  | j + 1, hj => by rw [catL, catL, catL_congr h j (by omega), h _ (getD_mem (by omega))]
theorem readB_congr {ls ls' : List ByteArray} {x : Ino} (h : ∀ b ∈ x.bl, ls'.getD b ByteArray.empty = ls.getD b ByteArray.empty) : readB ls' x = readB ls x := by
  unfold readB
  rw [catL_congr h _ (Nat.le_refl _)]
theorem readB_list (ls : List ByteArray) (x : Ino) : (readB ls x).data.toList = (catL ls x.bl x.bl.length).take x.data.size := by
  unfold readB
  rw [Lib.extract_from_zero]
theorem readB_pcs {ls : List ByteArray} {x : Ino} (hl : x.bl.length = needN x.data.size) (h : ∀ i, i < x.bl.length → ls.getD (x.bl.getD i 0) ByteArray.empty = pcB x.data i) : readB ls x = x.data := Go.WideShapes.bytes_inj (by
  have hc : ∀ j, j ≤ x.bl.length → catL ls x.bl j = pcs x.data.data.toList j := fun j => by
    induction j with
    | zero => exact fun _ => rfl
    | succ j ih => exact fun hj => by rw [catL, pcs, ih (by omega), h j (by omega), pcB_list]
  rw [readB_list, hc _ (Nat.le_refl _), hl, Lib.size_eq]
  exact pcs_need _)
theorem s16_pcs {ls : List ByteArray} {x : Ino} (h : ∀ i, i < x.bl.length → ls.getD (x.bl.getD i 0) ByteArray.empty = pcB x.data i) : S16 ls x.bl := fun b hb => by
  obtain ⟨i, hi, rfl⟩ := List.getElem_of_mem hb
  have := h i hi
  rw [List.getD_eq_getElem?_getD (l := x.bl), List.getElem?_eq_getElem hi] at this
  rw [show ls.getD x.bl[i] ByteArray.empty = pcB x.data i from this, pcB_size]
/-- One bit of a block has turned: what is read has another sum. -/
theorem readB_turn {ls : List ByteArray} {x : Ino} {at_ : Nat} (h16 : S16 ls x.bl) (hl : x.bl.length = needN x.data.size) (hn : x.bl.Nodup) (hr : ∀ b ∈ x.bl, b < ls.length) (ha : at_ < 8 * x.data.size) :
    crc (readB (ls.set (x.bl.getD (at_ / 128) 0) (turn (ls.getD (x.bl.getD (at_ / 128) 0) ByteArray.empty) (at_ % 128))) x).data.toList ≠ crc (readB ls x).data.toList := by
  have hhi := needN_hi x.data.size
  obtain ⟨i, hi⟩ : ∃ i, at_ / 128 = i := ⟨_, rfl⟩
  obtain ⟨bit, hbit⟩ : ∃ bit, at_ % 128 = bit := ⟨_, rfl⟩
  rw [hi, hbit]
  have hil : i < x.bl.length := by omega
  obtain ⟨g, hg⟩ : ∃ g, x.bl.getD i 0 = g := ⟨_, rfl⟩
  have hgb : g = x.bl[i] := by rw [← hg, List.getD_eq_getElem?_getD, List.getElem?_eq_getElem hil]; rfl
  have hgm : g ∈ x.bl := hgb ▸ List.getElem_mem hil
  rw [hg]
  obtain ⟨ls', hls'⟩ : ∃ ls', ls.set g (turn (ls.getD g ByteArray.empty) bit) = ls' := ⟨_, rfl⟩
  rw [hls']
  have hset : ∀ b, ls'.getD b ByteArray.empty = if b = g then turn (ls.getD g ByteArray.empty) bit else ls.getD b ByteArray.empty := fun b => by
    rw [← hls']
    by_cases e : b = g
    · subst e
      rw [if_pos rfl, List.getD_eq_getElem?_getD, List.getElem?_set_self (hr _ hgm)]
      rfl
    · rw [if_neg e, List.getD_eq_getElem?_getD, List.getElem?_set_ne (fun q => e q.symm), ← List.getD_eq_getElem?_getD]
  have h16' : S16 ls' x.bl := fun b hb => by
    rw [hset b]
    by_cases e : b = g
    · subst e; rw [if_pos rfl, turn_size]; exact h16 _ hb
    · rw [if_neg e]; exact h16 _ hb
  rw [readB_list, readB_list]
  obtain ⟨X, hX⟩ : ∃ X, (catL ls x.bl x.bl.length).take x.data.size = X := ⟨_, rfl⟩
  obtain ⟨Y, hY⟩ : ∃ Y, (catL ls' x.bl x.bl.length).take x.data.size = Y := ⟨_, rfl⟩
  rw [hX, hY]
  have hXl : X.length = x.data.size := by rw [← hX, List.length_take, catL_len ls x.bl h16 _ (Nat.le_refl _)]; omega
  have hk : at_ / 8 < X.length := by omega
  have hgs := h16 _ hgm
  have hYX : Y = X.set (at_ / 8) (X[at_ / 8] ^^^ UInt8.ofNat (2 ^ (bit % 8))) := by
    refine List.ext_getElem? (fun q => ?_)
    rw [List.getElem?_set]
    have hgetX : ∀ q, q < x.data.size → X[q]? = (ls.getD (x.bl.getD (q / 16) 0) ByteArray.empty).data.toList[q % 16]? := fun q hq => by
      rw [← hX, List.getElem?_take, if_pos hq]; exact catL_get h16 _ (Nat.le_refl _) q (by omega)
    have hgetY : ∀ q, q < x.data.size → Y[q]? = (ls'.getD (x.bl.getD (q / 16) 0) ByteArray.empty).data.toList[q % 16]? := fun q hq => by
      rw [← hY, List.getElem?_take, if_pos hq]; exact catL_get h16' _ (Nat.le_refl _) q (by omega)
    by_cases hq : q < x.data.size
    · rw [hgetY q hq, hset]
      by_cases e : x.bl.getD (q / 16) 0 = g
      · have hqi : q / 16 = i := by
          have hq16 : q / 16 < x.bl.length := by omega
          have e2 : x.bl[q / 16] = x.bl[i] := by
            rw [← hgb, ← e, List.getD_eq_getElem?_getD, List.getElem?_eq_getElem hq16]; rfl
          exact (List.getElem_inj hn).1 e2
        rw [if_pos e]
        unfold turn
        simp only [List.getElem?_modify]
        have hqq := hgetX q hq
        rw [e] at hqq
        by_cases e3 : at_ / 8 = q
        · subst e3
          rw [if_pos rfl, if_pos hk]
          have e4 : bit / 8 = at_ / 8 % 16 := by omega
          rw [← hqq, List.getElem?_eq_getElem hk]
          simp only [Option.map_eq_map, Option.map_some, if_pos e4]
        · rw [if_neg e3, ← hqq]
          have e4 : ¬ bit / 8 = q % 16 := by omega
          simp only [if_neg e4, Option.map_eq_map, Option.map_id']
      · have hne : ¬ at_ / 8 = q := by
          rintro rfl
          have : at_ / 8 / 16 = i := by omega
          rw [this] at e
          exact e hg
        rw [if_neg e, if_neg hne]
        exact (hgetX q hq).symm
    · have h1 : Y.length ≤ x.data.size := by rw [← hY]; exact List.length_take_le _ _
      rw [List.getElem?_eq_none (by omega), if_neg (by omega), List.getElem?_eq_none (by omega)]
  rw [hYX]
  refine crc_set hk (fun h => ?_)
  have h1 : UInt8.ofNat (2 ^ (bit % 8)) = 0 := by
    have := congrArg (fun c => X[at_ / 8] ^^^ c) h
    simpa [← UInt8.xor_assoc] using this
  have h2 : bit % 8 < 8 := Nat.mod_lt _ (by omega)
  revert h1
  generalize bit % 8 = z at h2
  have : z = 0 ∨ z = 1 ∨ z = 2 ∨ z = 3 ∨ z = 4 ∨ z = 5 ∨ z = 6 ∨ z = 7 := by omega
  rcases this with rfl | rfl | rfl | rfl | rfl | rfl | rfl | rfl <;> decide
end Go.Proofs.YtcpilhembdphoaaGreatDoor
