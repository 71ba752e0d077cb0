/- The pieces of a text in blocks of 16 bytes, and that they make it again. No condition. -/
import Derived.Lib.Strings
import Derived.WideShapes
namespace Go.Proofs.YtcpilhembdphoaaGreatDoor

/-- Piece j of a text: 16 bytes, the last ones zero. -/
def pcL (d : List UInt8) (j : Nat) : List UInt8 := (d.drop (16 * j)).take 16 ++ List.replicate (16 - ((d.drop (16 * j)).take 16).length) 0
def pcB (d : ByteArray) (j : Nat) : ByteArray := ⟨(pcL d.data.toList j).toArray⟩
theorem pcL_len (d : List UInt8) (j : Nat) : (pcL d j).length = 16 := by
  unfold pcL; rw [List.length_append, List.length_replicate, List.length_take]; omega
theorem pcB_list (d : ByteArray) (j : Nat) : (pcB d j).data.toList = pcL d.data.toList j := by simp [pcB]
theorem pcB_size (d : ByteArray) (j : Nat) : (pcB d j).size = 16 := by rw [Lib.size_eq, pcB_list, pcL_len]
/-- The first m pieces, one behind the other. -/
def pcs (d : List UInt8) : Nat → List UInt8
  | 0 => []
  | m + 1 => pcs d m ++ pcL d m
theorem pcs_len (d : List UInt8) : ∀ m, (pcs d m).length = 16 * m
  | 0 => rfl
  | m + 1 => by rw [pcs, List.length_append, pcs_len d m, pcL_len]; omega
theorem pcs_full (d : List UInt8) : ∀ m, 16 * m ≤ d.length → pcs d m = d.take (16 * m)
  | 0, _ => by simp [pcs]
  | m + 1, h => by
    have hl : ((d.drop (16 * m)).take 16).length = 16 := by rw [List.length_take, List.length_drop]; omega
    rw [pcs, pcs_full d m (by omega), pcL, hl, Nat.sub_self, List.replicate_zero, List.append_nil, ← List.take_add]
    congr 1
/-- How many blocks a text needs. -/
def needN (n : Nat) : Nat := if n < 1 then 0 else (n - 1) / 16 + 1
theorem needN_le (n : Nat) (h : n ≤ 2000) : needN n ≤ 125 := by unfold needN; split <;> omega
theorem needN_lo (n : Nat) {j : Nat} (h : j < needN n) : 16 * j < n := by
  unfold needN at h
  split at h <;> omega
theorem needN_hi (n : Nat) : n ≤ 16 * needN n := by unfold needN; split <;> omega
theorem pcs_need (d : List UInt8) : (pcs d (needN d.length)).take d.length = d := by
  by_cases h : d.length < 1
  · have : d = [] := List.eq_nil_of_length_eq_zero (by omega)
    subst this; simp
  · obtain ⟨m, hm⟩ : ∃ m, needN d.length = m + 1 := ⟨(d.length - 1) / 16, by unfold needN; rw [if_neg h]⟩
    have h1 := needN_hi d.length
    have h2 : 16 * m < d.length := needN_lo d.length (by omega)
    rw [hm, pcs, pcs_full d m (by omega), pcL]
    have h3 : (d.drop (16 * m)).take 16 = d.drop (16 * m) := List.take_of_length_le (by rw [List.length_drop]; omega)
    rw [h3, ← List.append_assoc, List.take_append_drop, List.take_left]
def zerosB (n : Nat) : ByteArray := ⟨(List.replicate n (0 : UInt8)).toArray⟩

/-- What waits behind the first j writes. -/
def wsN (l : List Nat) (d : ByteArray) (j : Nat) : List (Nat × ByteArray) := (List.range j).map fun i => (l.getD i 0, pcB d i)
theorem wsN_len (l : List Nat) (d : ByteArray) (j : Nat) : (wsN l d j).length = j := by simp [wsN]
theorem wsN_succ (l : List Nat) (d : ByteArray) (j : Nat) : wsN l d (j + 1) = wsN l d j ++ [(l.getD j 0, pcB d j)] := by simp [wsN, List.range_succ]
/-- The blocks behind the first j of these writes. -/
def lsN (ls : List ByteArray) (l : List Nat) (d : ByteArray) : Nat → List ByteArray
  | 0 => ls
  | j + 1 => (lsN ls l d j).set (l.getD j 0) (pcB d j)
theorem lsN_len (ls : List ByteArray) (l : List Nat) (d : ByteArray) : ∀ j, (lsN ls l d j).length = ls.length
  | 0 => rfl
  | j + 1 => by rw [lsN, List.length_set, lsN_len ls l d j]
theorem lsN_other (ls : List ByteArray) (l : List Nat) (d : ByteArray) (b : Nat) (x : ByteArray) : ∀ j, (∀ i, i < j → l.getD i 0 ≠ b) → (lsN ls l d j).getD b x = ls.getD b x
  | 0, _ => rfl
  | j + 1, h => by
    rw [lsN, List.getD_eq_getElem?_getD, List.getElem?_set_ne (h j (by omega)), ← List.getD_eq_getElem?_getD]
    exact lsN_other ls l d b x j (fun i hi => h i (by omega))
theorem lsN_at (ls : List ByteArray) (l : List Nat) (d : ByteArray) (x : ByteArray) (hb : ∀ b ∈ l, b < ls.length) (hn : l.Nodup) : ∀ j, j ≤ l.length → ∀ i, i < j → (lsN ls l d j).getD (l.getD i 0) x = pcB d i
  | 0, _, i, hi => by omega
  | j + 1, hj, i, hi => by
    have hgi : l.getD i 0 = l[i]'(by omega) := by rw [List.getD_eq_getElem?_getD, List.getElem?_eq_getElem (by omega)]; rfl
    have hgj : l.getD j 0 = l[j]'(by omega) := by rw [List.getD_eq_getElem?_getD, List.getElem?_eq_getElem (by omega)]; rfl
    rw [lsN]
    by_cases e : i = j
    · subst e
      have : l.getD i 0 < (lsN ls l d i).length := by rw [lsN_len, hgi]; exact hb _ (List.getElem_mem _)
      rw [List.getD_eq_getElem?_getD, List.getElem?_set_self this]
      rfl
    · have hne : l.getD j 0 ≠ l.getD i 0 := by
        rw [hgi, hgj]
        intro h
        exact (List.pairwise_iff_getElem.1 hn) i j (by omega) (by omega) (by omega) h.symm
      rw [List.getD_eq_getElem?_getD, List.getElem?_set_ne hne, ← List.getD_eq_getElem?_getD]
      exact lsN_at ls l d x hb hn j (by omega) i (by omega)
end Go.Proofs.YtcpilhembdphoaaGreatDoor
