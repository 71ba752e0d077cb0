/- A tree's text in plain words, and that its parts are read back. No condition. -/
import Derived.Test.YtoaedkinlnkkhaaDoorPk3
namespace Go.Proofs.YtoaedkinlnkkhaaDoor
open Go.RowKit

mutual
/-- The text of a tree. -/
def textL {α : Type} : Tr α → List UInt8
  | .mk k d e _ ks => if k = kDir then 100 :: (Lib.decDigits ks.length ++ 58 :: textsL ks) else (if k = kLink then 108 else if e = true then 120 else 102) :: cnt d.data.toList
def textsL {α : Type} : List (ByteArray × Tr α) → List UInt8
  | [] => []
  | (n, t) :: r => cnt n.data.toList ++ textL t ++ textsL r
end
theorem dec_len6 (n : Nat) (h : n < 1000000) : (Lib.decDigits n).length ≤ 6 := by
  rw [Lib.decDigits_length]
  have : ∀ k u, u < 10 ^ (k + 1) → Lib.nDigits u ≤ k + 1 := by
    intro k
    induction k with
    | zero => intro u hu; rw [Lib.nDigits_small (by omega)]; omega
    | succ k ih =>
      intro u hu
      by_cases hu9 : u < 10
      · rw [Lib.nDigits_small hu9]; omega
      · rw [Lib.nDigits_big hu9]
        have := ih (u / 10) (by rw [Nat.pow_succ] at hu; omega)
        omega
  exact this 5 n (by omega)
theorem numP_dec (n : Nat) (r : List UInt8) (h : n < 1000000) : numP (Lib.decDigits n ++ 58 :: r) = some (n, r) := by
  have h6 := dec_len6 n h
  rw [numP_colon rfl (fun c hc e => by have := dec_digit n c hc; subst e; exact absurd this.2 (by decide)) (by omega), numOf_dec 6 n h6, if_pos (by omega)]
  rfl
theorem countedP_cnt (s r : List UInt8) (h : s.length < 1000000) : countedP (cnt s ++ r) = some (bstr s, r) := by
  have e : cnt s ++ r = Lib.decDigits s.length ++ 58 :: (s ++ r) := by simp [cnt]
  rw [e, countedP_some (numP_dec s.length (s ++ r) h) (by simp), List.take_left, List.drop_left]

mutual
/-- A tree that its text gives back: f levels at most. -/
def FitT : Nat → Nd → Prop
  | f, .mk k d e _ ks => 1 ≤ f ∧ d.size < 1000000 ∧ ks.length < 1000000 ∧ ((k = kDir ∧ d = ⟨#[]⟩ ∧ e = false ∧ FitS (f - 1) ks) ∨ (k = kLink ∧ e = false ∧ ks = []) ∨ (k = kFile ∧ ks = []))
def FitS : Nat → List (ByteArray × Nd) → Prop
  | _, [] => True
  | f, (n, t) :: r => n.size < 1000000 ∧ FitT f t ∧ FitS f r
end
theorem leaf_text {k : UInt8} {d : ByteArray} {c f : Nat} {more : List UInt8} (hk : k = 108 ∨ k = 102 ∨ k = 120) (hd : d.size < 1000000) (hc : c + 1 ≤ 200) :
    nodeP (f + 1) c (k :: cnt d.data.toList ++ more) = .ok (.mk (if k = 108 then kLink else kFile) d (decide (k = 120)) () [], c + 1, more) := by
  rw [nodeP_step, if_neg (by omega)]
  simp only [List.cons_append]
  rw [if_neg (by rcases hk with rfl | rfl | rfl <;> decide), if_pos hk]
  unfold leafP
  rw [countedP_cnt _ _ (by rw [size_toList]; exact hd), bstr_self]
mutual
theorem node_text : ∀ (t : Nd) (f c : Nat) (more : List UInt8), FitT f t → c + t.sz ≤ 200 → nodeP f c (textL t ++ more) = .ok (t, c + t.sz, more)
  | .mk k d e u ks, f, c, more, h, hc => by
    rw [FitT] at h
    obtain ⟨hf, hd, hk9, hh⟩ := h
    obtain ⟨g, rfl⟩ : ∃ g, f = g + 1 := ⟨f - 1, by omega⟩
    have hsz := Tr.sz_kids (Tr.mk k d e u ks)
    simp only [Tr.kids] at hsz
    rcases hh with ⟨rfl, rfl, rfl, hs⟩ | ⟨rfl, rfl, rfl⟩ | ⟨rfl, rfl⟩
    · rw [nodeP_step, if_neg (by omega), textL, if_pos rfl]
      simp only [List.cons_append, List.append_assoc, if_true]
      unfold dirP
      rw [numP_dec _ _ hk9]
      simp only
      rw [kids_text ks g (c + 1) more (by simpa using hs) (by omega), hsz]
      rw [show c + 1 + Tr.szs ks = c + (Tr.szs ks + 1) by omega]
    · rw [textL, if_neg (by decide), if_pos rfl, leaf_text (.inl rfl) hd (by omega), hsz]
      simp [Tr.szs]
    · rw [textL, if_neg (by decide), if_neg (by decide)]
      cases e
      · rw [if_neg (by decide), leaf_text (.inr (.inl rfl)) hd (by omega), hsz]
        simp [Tr.szs]
      · rw [if_pos rfl, leaf_text (.inr (.inr rfl)) hd (by omega), hsz]
        simp [Tr.szs]
theorem kids_text : ∀ (ks : List (ByteArray × Nd)) (f c : Nat) (more : List UInt8), FitS f ks → c + Tr.szs ks ≤ 200 → kidsP (nodeP f) ks.length c (textsL ks ++ more) = .ok (ks, c + Tr.szs ks, more)
  | [], f, c, more, h, hc => by simp [kidsP, textsL, Tr.szs]
  | (n, t) :: r, f, c, more, h, hc => by
    rw [FitS] at h
    obtain ⟨hn, ht, hr⟩ := h
    rw [Tr.szs] at hc
    rw [List.length_cons, kidsP, textsL, List.append_assoc, List.append_assoc, countedP_cnt _ _ (by rw [size_toList]; exact hn)]
    simp only
    rw [node_text t f c _ ht (by omega)]
    simp only
    rw [kids_text r f (c + t.sz) more hr (by omega), Tr.szs, bstr_self]
    simp only [Nat.add_assoc]
end
end Go.Proofs.YtoaedkinlnkkhaaDoor
