/- slices.Contains and slices.Sort of texts. Condition: the slice's cells are there. -/
import Derived.Test.YtlcabkhalockpaaGreatDoorQa
import Derived.Test.YtlcabkhalockpaaGreatDoorShelfQ
import Derived.Sort.OwnSorted
namespace Go.Proofs.YtlcabkhalockpaaGreatDoor
open Go.RowKit Go.Maps

theorem contains_txt (l : List ByteArray) (v : Value) (x : ByteArray) (w : World) (h : TxI l v w) :
    Calls Tryz.prog 34 #[v, .string x] w fun e w' => e = .returned (.bool (inB x l)) ∧ Below w.heap.size w w' := by
  obtain ⟨a, cap, hv, hl, hn, hm, h3⟩ := h.1
  subst hv
  rcases h3 with h0 | ⟨b, off, rfl, hb, hc⟩
  · have hl0 : l = [] := List.eq_nil_of_length_eq_zero h0
    subst hl0
    refine (Tryz.slices_Contains_string_empty a cap x w).mono ?_
    rintro e w' ⟨rfl, rfl⟩
    exact ⟨rfl, Below.refl _ _⟩
  · have hlen := tcells_len l
    refine (Tryz.slices_Contains_string b off l.length cap l x w (Nat.le_refl _) h.1.le (fun j hj => ?_)).mono ?_
    · rw [hc j (by omega)]
      simp [tcells, List.getD_eq_getElem?_getD, List.getElem?_eq_getElem hj]
    · rintro e w' ⟨rfl, rfl⟩
      refine ⟨?_, Below.refl _ _⟩
      rw [List.take_of_length_le (Nat.le_refl _)]
      have : Lib.containsS l x = inB x l := by rw [Bool.eq_iff_iff, Lib.containsS_iff, inB_iff]
      rw [this]

/-- The bytes of texts. -/
def byt (l : List ByteArray) : List (List UInt8) := l.map fun s => s.data.toList
theorem byt_mem {l : List ByteArray} {s : ByteArray} : s.data.toList ∈ byt l ↔ s ∈ l := by
  unfold byt
  rw [List.mem_map]
  exact ⟨fun ⟨t, ht, e⟩ => toList_inj e ▸ ht, fun h => ⟨s, h, rfl⟩⟩
theorem byt_nodup {l : List ByteArray} (h : l.Nodup) : (byt l).Nodup := List.pairwise_map.2 (h.imp fun k e => k (toList_inj e))
theorem srt_len (ss : List (List UInt8)) : (srt ss).length = ss.length := by unfold srt; rw [List.length_map, List.length_mergeSort]
theorem srt_cells (ss : List (List UInt8)) : tcells (srt ss) = (ss.mergeSort (fun x y => decide (x ≤ y))).map Go.Proofs.encStr := by
  unfold tcells srt
  rw [List.map_map]
  rfl
/-- What slices.Sort leaves. -/
def StP (l : List ByteArray) (v : Value) (w : World) (e : Ending) (w' : World) : Prop := e = .returned (.tuple #[]) ∧ Sl w' v (tcells (srt (byt l))) (srt (byt l)).length 1 ∧ w.grownBy w' v.ownBlock
theorem sort_txt (F : Nat → Prop) (l : List ByteArray) (v : Value) (w : World) (h : Ow F w 9 1 v l.length (tcells l)) (h5 : l.length ≤ 100000) :
    Calls Tryz.prog 35 #[v] w (StP l v w) := by
  have hbl : (byt l).length = l.length := by simp [byt]
  have hsl : (srt (byt l)).length = l.length := by rw [srt_len, hbl]
  rcases h.2 with ⟨rfl, h0⟩ | ⟨g, off, cap, cur, rfl, hF, hg, hn, hm, hsz, ht⟩
  · have hl0 : l = [] := List.eq_nil_of_length_eq_zero h0
    subst hl0
    refine (Tryz.slices_Sort_string_none none 0 w).mono ?_
    rintro e w' ⟨rfl, rfl⟩
    have e0 : srt (byt []) = [] := List.eq_nil_of_length_eq_zero hsl
    exact ⟨rfl, by rw [e0]; exact Sl.nil _ _, ⟨rfl, rfl, rfl, Nat.le_refl _, fun _ _ _ => rfl⟩⟩
  · have hgl : g < w.heap.size := (Array.getElem?_eq_some_iff.1 hg).1
    have hH : Sort.Holds Go.Proofs.encStr w g off (byt l).toArray := by
      intro j hj
      have hj' : j < l.length := by simpa [hbl] using hj
      refine ⟨?_, by simp [World.frozen?, hg]⟩
      have h1 : ((cur.toList.drop off).take (l.length * 1))[j]? = (tcells l)[j]? := by rw [ht]
      rw [List.getElem?_take_of_lt (by omega), List.getElem?_drop] at h1
      simp only [World.cell?, hg]
      simp only [Option.isSome_none, Bool.false_eq_true, if_false]
      rw [← Array.getElem?_toList, h1]
      simp [tcells, byt, hj', Go.Proofs.encStr]
    have hC := Tryz.slices_Sort_string g off cap (byt l) w hH hgl (by omega)
    rw [hbl] at hC
    refine hC.mono ?_
    rintro e w' ⟨rfl, n, os, rfl⟩
    have hsz2 : ((byt l).mergeSort fun x y => decide (x ≤ y)).toArray.size = (byt l).toArray.size := by simp
    have hH2 := Sort.holds_putRow Go.Proofs.encStr (Sort.ahead w n) g off (byt l).toArray ((byt l).mergeSort fun x y => decide (x ≤ y)).toArray (by exact hH) hsz2
    refine ⟨rfl, ⟨some ⟨g, off, none⟩, cap, by rw [hsl], by rw [tcells_len, Nat.mul_one], by omega, hm, .inr ⟨g, off, rfl, by simp [Sort.grow, Sort.putRow, Sort.mapBlock, Sort.ahead]; omega, fun j hj => ?_⟩⟩, ?_⟩
    · have hj2 : j < l.length := by rw [tcells_len, hsl] at hj; exact hj
      have h1 := (hH2 j (by rw [hsz2]; simpa [hbl] using hj2)).1
      have h3 : (Sort.grow (Sort.putRow Go.Proofs.encStr (Sort.ahead w n) g off ((byt l).mergeSort fun x y => decide (x ≤ y)).toArray) os).cell? ⟨g, off + j, none⟩ = (Sort.putRow Go.Proofs.encStr (Sort.ahead w n) g off ((byt l).mergeSort fun x y => decide (x ≤ y)).toArray).cell? ⟨g, off + j, none⟩ :=
        World.cell?_of_block (Sort.heap_grow_old _ _ (by simpa [Sort.putRow, Sort.mapBlock, Sort.ahead] using hgl))
      rw [h3, h1]
      have hjm : j < ((byt l).mergeSort fun x y => decide (x ≤ y)).length := by rw [List.length_mergeSort, hbl]; exact hj2
      simp only [srt_cells, List.getElem_map]
      congr 1
      rw [getElem!_pos _ j (by simpa using hjm)]
      simp
    · refine ⟨rfl, rfl, rfl, by simp, fun k hk hne => ?_⟩
      rw [Sort.heap_grow_old _ _ (by simpa using hk)]
      have : g ≠ k := fun e => hne (by rw [e]; rfl)
      simp [Sort.putRow, Sort.mapBlock, Sort.ahead, Array.getElem?_modify, this]
end Go.Proofs.YtlcabkhalockpaaGreatDoor
