/- Plain facts on which blocks are free, taken and given back: lists of Booleans. No condition. -/
namespace Go.Proofs.YtcpilhembdphoaaGreatDoor

/-- The places below i that are in use. -/
def usedTo (us : List Bool) (i : Nat) : List Nat := (List.range i).filter fun j => us.getD j false
theorem usedTo_succ_t {us : List Bool} {i : Nat} (h : us.getD i false = true) : usedTo us (i + 1) = usedTo us i ++ [i] := by
  rw [List.getD_eq_getElem?_getD] at h
  simp [usedTo, List.range_succ, List.filter_append, h]
theorem usedTo_succ_f {us : List Bool} {i : Nat} (h : us.getD i false = false) : usedTo us (i + 1) = usedTo us i := by
  rw [List.getD_eq_getElem?_getD] at h
  simp [usedTo, List.range_succ, List.filter_append, h]
theorem usedTo_le (us : List Bool) (i : Nat) : (usedTo us i).length ≤ i := Nat.le_trans (List.length_filter_le _ _) (by simp)
/-- How many are free. -/
def nfree (us : List Bool) : Nat := us.length - (usedTo us us.length).length
/-- How many below i are free. -/
def freeTo (us : List Bool) : Nat → Nat
  | 0 => 0
  | i + 1 => freeTo us i + if us.getD i true = false then 1 else 0
theorem freeTo_used (us : List Bool) : ∀ i, i ≤ us.length → freeTo us i + (usedTo us i).length = i
  | 0, _ => by simp [freeTo, usedTo]
  | i + 1, h => by
    have ih := freeTo_used us i (by omega)
    have hi : i < us.length := by omega
    have e : us.getD i true = us.getD i false := by simp [List.getD_eq_getElem?_getD, List.getElem?_eq_getElem hi]
    cases hb : us.getD i false
    · rw [usedTo_succ_f hb]; simp only [freeTo, e, hb, if_true]; omega
    · rw [usedTo_succ_t hb]; simp only [freeTo, e, hb]; simp; omega
theorem nfree_eq (us : List Bool) : nfree us = freeTo us us.length := by
  have := freeTo_used us us.length (Nat.le_refl _)
  unfold nfree; omega
theorem freeTo_mono (us : List Bool) {i j : Nat} (h : i ≤ j) : freeTo us i ≤ freeTo us j := by
  induction h with
  | refl => exact Nat.le_refl _
  | step _ ih => exact Nat.le_trans ih (by simp [freeTo])

/-- Take k: after i rounds what was taken, and what is in use. -/
def tk (us : List Bool) (k : Nat) : Nat → List Nat × List Bool
  | 0 => ([], us)
  | i + 1 => if (tk us k i).1.length < k ∧ us.getD i true = false then ((tk us k i).1 ++ [i], (tk us k i).2.set i true) else tk us k i
theorem tk_succ (us : List Bool) (k i : Nat) : tk us k (i + 1) = if (tk us k i).1.length < k ∧ us.getD i true = false then ((tk us k i).1 ++ [i], (tk us k i).2.set i true) else tk us k i := rfl
theorem tk_len2 (us : List Bool) (k : Nat) : ∀ i, (tk us k i).2.length = us.length
  | 0 => rfl
  | i + 1 => by
    unfold tk
    split
    · simp [tk_len2 us k i]
    · exact tk_len2 us k i
theorem tk_len (us : List Bool) (k : Nat) : ∀ i, (tk us k i).1.length = min k (freeTo us i)
  | 0 => by simp [tk, freeTo]
  | i + 1 => by
    have ih := tk_len us k i
    unfold tk
    split
    · rename_i h
      simp only [List.length_append, List.length_singleton, ih, freeTo, h.2, if_true]
      have := h.1
      rw [ih] at this
      omega
    · rename_i h
      rw [ih]
      simp only [freeTo]
      by_cases hf : us.getD i true = false
      · have : ¬ min k (freeTo us i) < k := by rw [← ih]; exact fun h' => h ⟨h', hf⟩
        simp only [hf, if_true]; omega
      · simp only [hf]; simp
theorem tk_lt (us : List Bool) (k : Nat) : ∀ i, ∀ j, j ∈ (tk us k i).1 → j < i
  | 0, j, h => by simp [tk] at h
  | i + 1, j, h => by
    unfold tk at h
    split at h
    · simp only [List.mem_append, List.mem_singleton] at h
      rcases h with h | h
      · have := tk_lt us k i j h; omega
      · omega
    · have := tk_lt us k i j h; omega
theorem tk_ge (us : List Bool) (k : Nat) : ∀ i, ∀ j d, i ≤ j → (tk us k i).2.getD j d = us.getD j d
  | 0, _, _, _ => rfl
  | i + 1, j, d, h => by
    unfold tk
    split
    · have := tk_ge us k i j d (by omega)
      simp only [List.getD_eq_getElem?_getD] at this ⊢
      rw [List.getElem?_set_ne (by omega)]; exact this
    · exact tk_ge us k i j d (by omega)
theorem tk_stop {us : List Bool} {k i : Nat} (hk : k ≤ nfree us) (hl : (tk us k i).1.length < k) : i < us.length := by
  rw [tk_len] at hl
  rw [nfree_eq] at hk
  apply Nat.lt_of_not_le
  intro h
  have := freeTo_mono us h
  omega
/-- From where k are taken on nothing turns. -/
theorem tk_done {us : List Bool} {k i : Nat} (hl : ¬ (tk us k i).1.length < k) : ∀ d, tk us k (i + d) = tk us k i
  | 0 => rfl
  | d + 1 => by
    have ih := tk_done hl d
    show tk us k (i + d + 1) = _
    rw [tk_succ, ih, if_neg (fun h => hl h.1)]
theorem tk_succ_y {us : List Bool} {k i : Nat} (hl : (tk us k i).1.length < k) (hf : us.getD i true = false) : tk us k (i + 1) = ((tk us k i).1 ++ [i], (tk us k i).2.set i true) := by
  rw [tk_succ, if_pos ⟨hl, hf⟩]
theorem tk_succ_n {us : List Bool} {k i : Nat} (hf : ¬ us.getD i true = false) : tk us k (i + 1) = tk us k i := by
  rw [tk_succ, if_neg (fun h => hf h.2)]

/-- Give: the places of l are free again. -/
def giv (us : List Bool) : List Nat → List Bool
  | [] => us
  | j :: l => giv (us.set j false) l
theorem giv_len : ∀ (l : List Nat) (us : List Bool), (giv us l).length = us.length
  | [], _ => rfl
  | j :: l, us => by simp [giv, giv_len l]
theorem giv_snoc : ∀ (l : List Nat) (us : List Bool) (j : Nat), giv us (l ++ [j]) = (giv us l).set j false
  | [], _, _ => rfl
  | i :: l, us, j => by simp [giv, giv_snoc l]

end Go.Proofs.YtcpilhembdphoaaGreatDoor
