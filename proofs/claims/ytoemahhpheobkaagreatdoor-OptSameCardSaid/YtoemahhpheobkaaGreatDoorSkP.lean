/- Plain facts for SpaceKeeps: no block is given to two. No condition. -/
import Derived.Test.YtoemahhpheobkaaGreatDoorSpC
namespace Go.Proofs.YtoemahhpheobkaaGreatDoor

theorem tk_mem (us : List Bool) (k : Nat) : ∀ i, ∀ j, j ∈ (tk us k i).1 → us.getD j true = false
  | 0, j, h => by simp [tk] at h
  | i + 1, j, h => by
    rw [tk_succ] at h
    split at h
    · rename_i hc
      simp only [List.mem_append, List.mem_singleton] at h
      rcases h with h | h
      · exact tk_mem us k i j h
      · subst h; exact hc.2
    · exact tk_mem us k i j h
theorem tk_nodup (us : List Bool) (k : Nat) : ∀ i, (tk us k i).1.Nodup
  | 0 => by simp [tk]
  | i + 1 => by
    rw [tk_succ]
    split
    · rw [List.nodup_append]
      refine ⟨tk_nodup us k i, by simp, ?_⟩
      intro a ha b hb
      simp only [List.mem_singleton] at hb
      have := tk_lt us k i a ha
      omega
    · exact tk_nodup us k i
theorem getD_false_lt {us : List Bool} {j : Nat} (h : us.getD j true = false) : j < us.length := by
  apply Nat.lt_of_not_le
  intro hl
  rw [List.getD_eq_getElem?_getD, List.getElem?_eq_none hl] at h
  cases h
theorem getD_true_lt {us : List Bool} {j : Nat} (h : us.getD j false = true) : j < us.length := by
  apply Nat.lt_of_not_le
  intro hl
  rw [List.getD_eq_getElem?_getD, List.getElem?_eq_none hl] at h
  cases h
theorem getD_both {us : List Bool} {j : Nat} (h : j < us.length) : us.getD j true = us.getD j false := by
  simp [List.getD_eq_getElem?_getD, List.getElem?_eq_getElem h]
theorem set_getD {us : List Bool} {i j : Nat} {b : Bool} (hi : i < us.length) : (us.set i b).getD j false = if j = i then b else us.getD j false := by
  simp only [List.getD_eq_getElem?_getD, List.getElem?_set]
  by_cases e : i = j
  · subst e; simp [hi]
  · rw [if_neg e, if_neg (fun h => e h.symm)]
theorem tk_used (us : List Bool) (k : Nat) : ∀ i, ∀ j, (tk us k i).2.getD j false = true ↔ us.getD j false = true ∨ j ∈ (tk us k i).1
  | 0, j => by simp [tk]
  | i + 1, j => by
    have ih := tk_used us k i j
    rw [tk_succ]
    split
    · rename_i hc
      have hi := getD_false_lt hc.2
      simp only [set_getD (show i < (tk us k i).2.length by rw [tk_len2]; exact hi), List.mem_append, List.mem_singleton]
      by_cases e : j = i
      · subst e; simp
      · rw [if_neg e, ih]; simp [e]
    · exact ih

/-- The blocks of ls are in use, each of one alone, and no other ones. -/
structure Keeps (n : Nat) (us : List Bool) (ls : List (List Nat)) : Prop where
  len : us.length = n
  nodup : ls.flatten.Nodup
  used : ∀ j, us.getD j false = true ↔ j ∈ ls.flatten
theorem Keeps.start (n : Nat) : Keeps n (List.replicate n false) [] := by
  refine ⟨by simp, by simp, fun j => ?_⟩
  simp only [List.flatten_nil, List.not_mem_nil, iff_false, Bool.not_eq_true]
  rw [List.getD_eq_getElem?_getD]
  by_cases h : j < n
  · rw [List.getElem?_eq_getElem (by simpa using h)]; simp
  · rw [List.getElem?_eq_none (by simp; omega)]; rfl
theorem Keeps.take {n : Nat} {us : List Bool} {ls : List (List Nat)} (h : Keeps n us ls) (k : Nat) : Keeps n (tk us k us.length).2 (ls ++ [(tk us k us.length).1]) := by
  refine ⟨by rw [tk_len2, h.len], ?_, fun j => ?_⟩
  · rw [List.flatten_append, List.nodup_append]
    refine ⟨h.nodup, by simpa using tk_nodup us k _, ?_⟩
    intro a ha b hb e
    subst e
    simp only [List.flatten_cons, List.flatten_nil, List.append_nil] at hb
    have h1 := (h.used a).2 ha
    have h2 := tk_mem us k _ a hb
    rw [getD_both (getD_true_lt h1), h1] at h2
    cases h2
  · rw [tk_used, h.used]; simp [List.flatten_append]
theorem giv_used : ∀ (l : List Nat) (us : List Bool), (∀ j, j ∈ l → j < us.length) → ∀ j, (giv us l).getD j false = true ↔ us.getD j false = true ∧ j ∉ l
  | [], us, _, j => by simp [giv]
  | i :: l, us, h, j => by
    have hi : i < us.length := h i (by simp)
    have := giv_used l (us.set i false) (fun j hj => by rw [List.length_set]; exact h j (by simp [hj])) j
    simp only [giv, this, set_getD hi, List.mem_cons, not_or]
    by_cases e : j = i
    · subst e; simp
    · simp [e]
theorem Keeps.give {n : Nat} {us : List Bool} {l : List Nat} {ls : List (List Nat)} (h : Keeps n us (l :: ls)) : Keeps n (giv us l) ls := by
  have hn := h.nodup
  rw [List.flatten_cons, List.nodup_append] at hn
  have hl : ∀ j, j ∈ l → j < us.length := fun j hj => getD_true_lt ((h.used j).2 (by simp [hj]))
  refine ⟨by rw [giv_len, h.len], hn.2.1, fun j => ?_⟩
  rw [giv_used l us hl, h.used]
  simp only [List.flatten_cons, List.mem_append]
  constructor
  · rintro ⟨h1 | h1, h2⟩
    · exact absurd h1 h2
    · exact h1
  · exact fun h1 => ⟨.inr h1, fun h2 => hn.2.2 j h2 j h1 rfl⟩
theorem usedTo_mem (us : List Bool) (i j : Nat) : j ∈ usedTo us i ↔ j < i ∧ us.getD j false = true := by simp [usedTo]
theorem usedTo_nodup (us : List Bool) (i : Nat) : (usedTo us i).Nodup := List.Nodup.sublist List.filter_sublist List.nodup_range
/-- Lists without twins that have the same members are as long. -/
theorem nodup_len : ∀ (a b : List Nat), a.Nodup → (∀ j, j ∈ a → j ∈ b) → a.length ≤ b.length
  | [], _, _, _ => by simp
  | x :: a, b, ha, h => by
    have hx := h x (by simp)
    obtain ⟨b1, b2, rfl⟩ := List.append_of_mem hx
    rw [List.nodup_cons] at ha
    have := nodup_len a (b1 ++ b2) ha.2 (fun j hj => by
      have := h j (by simp [hj])
      simp only [List.mem_append, List.mem_cons] at this ⊢
      rcases this with h | rfl | h
      · exact .inl h
      · exact absurd hj ha.1
      · exact .inr h)
    simp only [List.length_append, List.length_cons] at this ⊢
    omega
theorem Keeps.many {n : Nat} {us : List Bool} {ls : List (List Nat)} (h : Keeps n us ls) : (usedTo us us.length).length = ls.flatten.length := by
  apply Nat.le_antisymm
  · exact nodup_len _ _ (usedTo_nodup _ _) (fun j hj => (h.used j).1 ((usedTo_mem _ _ _).1 hj).2)
  · exact nodup_len _ _ h.nodup (fun j hj => (usedTo_mem _ _ _).2 ⟨getD_true_lt ((h.used j).2 hj), (h.used j).2 hj⟩)
theorem Keeps.lt {n : Nat} {us : List Bool} {ls : List (List Nat)} (h : Keeps n us ls) {j : Nat} (hj : j ∈ ls.flatten) : j < n := by
  rw [← h.len]; exact getD_true_lt ((h.used j).2 hj)
theorem nfree_tk (us : List Bool) (k : Nat) (hk : k ≤ nfree us) : nfree (tk us k us.length).2 = nfree us - k := by
  have hK : ∀ us : List Bool, (usedTo us us.length).length = us.length - nfree us := fun us => by unfold nfree; have := usedTo_le us us.length; omega
  have h1 : (usedTo (tk us k us.length).2 (tk us k us.length).2.length).length = (usedTo us us.length ++ (tk us k us.length).1).length := by
    have hm : ∀ j, j ∈ usedTo (tk us k us.length).2 (tk us k us.length).2.length ↔ j ∈ usedTo us us.length ++ (tk us k us.length).1 := fun j => by
      rw [usedTo_mem, tk_used, List.mem_append, usedTo_mem, tk_len2]
      constructor
      · rintro ⟨a, b | b⟩
        · exact .inl ⟨a, b⟩
        · exact .inr b
      · rintro (⟨a, b⟩ | b)
        · exact ⟨a, .inl b⟩
        · exact ⟨getD_false_lt (tk_mem us k _ j b), .inr b⟩
    have hn : (usedTo us us.length ++ (tk us k us.length).1).Nodup := by
      rw [List.nodup_append]
      refine ⟨usedTo_nodup _ _, tk_nodup _ _ _, ?_⟩
      intro a ha b hb e
      subst e
      have h1 := ((usedTo_mem _ _ _).1 ha).2
      have h2 := tk_mem us k _ a hb
      rw [getD_both (getD_true_lt h1), h1] at h2
      cases h2
    exact Nat.le_antisymm (nodup_len _ _ (usedTo_nodup _ _) (fun j hj => (hm j).1 hj)) (nodup_len _ _ hn (fun j hj => (hm j).2 hj))
  have hl : (tk us k us.length).1.length = k := by rw [tk_len, ← nfree_eq]; omega
  have h2 := hK us
  have h3 := hK (tk us k us.length).2
  have h4 : nfree (tk us k us.length).2 ≤ us.length := by unfold nfree; rw [tk_len2]; omega
  have h5 : nfree us ≤ us.length := by unfold nfree; omega
  rw [h1, List.length_append, h2, hl, tk_len2] at h3
  omega

end Go.Proofs.YtoemahhpheobkaaGreatDoor
