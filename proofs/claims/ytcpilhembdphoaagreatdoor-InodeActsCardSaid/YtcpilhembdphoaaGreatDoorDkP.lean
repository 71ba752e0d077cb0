/- Plain facts on a disk: what is read, what a crash keeps, a bit that is turned. No condition. -/
namespace Go.Proofs.YtcpilhembdphoaaGreatDoor

/-- What is read of a block whose lasting text is d, behind the writes that wait. -/
def rdW (ws : List (Nat × ByteArray)) (k : Nat) (d : ByteArray) : ByteArray := ws.foldl (fun s x => if x.1 = k then x.2 else s) d
theorem rdW_snoc (ws : List (Nat × ByteArray)) (x : Nat × ByteArray) (k : Nat) (d : ByteArray) : rdW (ws ++ [x]) k d = if x.1 = k then x.2 else rdW ws k d := by simp [rdW]
theorem rdW_take_hit {ws : List (Nat × ByteArray)} {k i : Nat} {d : ByteArray} (h : i < ws.length) (hk : ws[i].1 = k) : rdW (ws.take (i + 1)) k d = ws[i].2 := by
  rw [List.take_succ_eq_append_getElem h, rdW_snoc, if_pos hk]
theorem rdW_take_miss {ws : List (Nat × ByteArray)} {k i : Nat} {d : ByteArray} (h : i < ws.length) (hk : ws[i].1 ≠ k) : rdW (ws.take (i + 1)) k d = rdW (ws.take i) k d := by
  rw [List.take_succ_eq_append_getElem h, rdW_snoc, if_neg hk]

/-- The lasting texts behind the first i writes, of which those of keep are made. -/
def crTo (keep : Nat → Bool) (ls : List ByteArray) (ws : List (Nat × ByteArray)) : Nat → List ByteArray
  | 0 => ls
  | i + 1 => if keep i = true ∧ i < ws.length then (crTo keep ls ws i).set (ws.getD i (0, ByteArray.empty)).1 (ws.getD i (0, ByteArray.empty)).2 else crTo keep ls ws i
theorem crTo_len (keep : Nat → Bool) (ls : List ByteArray) (ws : List (Nat × ByteArray)) : ∀ i, (crTo keep ls ws i).length = ls.length
  | 0 => rfl
  | i + 1 => by
    have := crTo_len keep ls ws i
    unfold crTo
    split <;> simp [this]
theorem crTo_y {keep : Nat → Bool} {ls : List ByteArray} {ws : List (Nat × ByteArray)} {i : Nat} (h : i < ws.length) (hk : keep i = true) : crTo keep ls ws (i + 1) = (crTo keep ls ws i).set ws[i].1 ws[i].2 := by
  have e : ws.getD i (0, ByteArray.empty) = ws[i] := by simp [List.getD_eq_getElem?_getD, List.getElem?_eq_getElem h]
  show (if keep i = true ∧ i < ws.length then _ else _) = _
  rw [if_pos ⟨hk, h⟩, e]
theorem crTo_n {keep : Nat → Bool} {ls : List ByteArray} {ws : List (Nat × ByteArray)} {i : Nat} (hk : keep i = false) : crTo keep ls ws (i + 1) = crTo keep ls ws i := by
  show (if keep i = true ∧ i < ws.length then _ else _) = _
  rw [if_neg (by simp [hk])]
/-- Each text behind it is an elder one, or one that was written there. -/
theorem crTo_src {keep : Nat → Bool} {ls : List ByteArray} {ws : List (Nat × ByteArray)} {Q : Nat → ByteArray → Prop} (h1 : ∀ j (h : j < ls.length), Q j ls[j]) (h2 : ∀ x ∈ ws, Q x.1 x.2) :
    ∀ i, ∀ j (h : j < (crTo keep ls ws i).length), Q j (crTo keep ls ws i)[j]
  | 0 => h1
  | i + 1 => by
    intro j h
    by_cases hc : keep i = true ∧ i < ws.length
    · have e := crTo_y (ls := ls) hc.2 hc.1
      have hj : j < (crTo keep ls ws i).length := by rw [crTo_len]; rwa [crTo_len] at h
      simp only [e, List.getElem_set]
      split
      · rename_i hh; subst hh; exact h2 _ (List.getElem_mem _)
      · exact crTo_src h1 h2 i j hj
    · have e : crTo keep ls ws (i + 1) = crTo keep ls ws i := by
        show (if keep i = true ∧ i < ws.length then _ else _) = _
        rw [if_neg hc]
      simp only [e]
      exact crTo_src h1 h2 i j (by rwa [e] at h)
/-- Each text that is read is a lasting one, or one that waits. -/
theorem rdW_src {ws : List (Nat × ByteArray)} {k : Nat} {d : ByteArray} {Q : ByteArray → Prop} (h1 : Q d) (h2 : ∀ x ∈ ws, x.1 = k → Q x.2) : Q (rdW ws k d) := by
  unfold rdW
  induction ws generalizing d with
  | nil => exact h1
  | cons x ws ih =>
    simp only [List.foldl_cons]
    apply ih
    · split
      · rename_i hh; exact h2 x (by simp) hh
      · exact h1
    · exact fun y hy => h2 y (by simp [hy])

/-- A bit that is turned. -/
def turn (s : ByteArray) (bit : Nat) : ByteArray := ⟨(s.data.toList.modify (bit / 8) (fun c => c ^^^ UInt8.ofNat (2 ^ (bit % 8)))).toArray⟩
theorem turn_turn (s : ByteArray) (bit : Nat) : turn (turn s bit) bit = s := by
  unfold turn
  simp only [List.modify_modify_eq]
  have : ((fun c : UInt8 => c ^^^ UInt8.ofNat (2 ^ (bit % 8))) ∘ fun c => c ^^^ UInt8.ofNat (2 ^ (bit % 8))) = id := by
    funext c; simp [UInt8.xor_assoc]
  rw [this]
  simp
theorem turn_size (s : ByteArray) (bit : Nat) : (turn s bit).size = s.size := by
  show ((s.data.toList.modify (bit / 8) (fun c => c ^^^ UInt8.ofNat (2 ^ (bit % 8)))).toArray).size = s.data.size
  rw [List.size_toArray, List.length_modify, Array.length_toList]
/-- A bit of what waits is turned. -/
def turnW (k bit : Nat) (ws : List (Nat × ByteArray)) : List (Nat × ByteArray) := ws.map fun x => if x.1 = k then (x.1, turn x.2 bit) else x
theorem turnW_turnW (k bit : Nat) (ws : List (Nat × ByteArray)) : turnW k bit (turnW k bit ws) = ws := by
  unfold turnW
  rw [List.map_map]
  conv => rhs; rw [← List.map_id ws]
  apply List.map_congr_left
  intro x _
  simp only [Function.comp, id]
  by_cases h : x.1 = k
  · rw [if_pos h]; simp only [h, if_true, turn_turn]; rw [← h]
  · rw [if_neg h, if_neg h]
end Go.Proofs.YtcpilhembdphoaaGreatDoor
