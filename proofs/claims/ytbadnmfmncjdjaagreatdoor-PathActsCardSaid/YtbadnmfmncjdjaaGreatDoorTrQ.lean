/- What the library's functions on texts answer about names and links, in plain words. No condition. -/
import Derived.Test.YtbadnmfmncjdjaaGreatDoorTrP
import Derived.Lib.SlTrimSet
import Derived.Laws.RangeString
import Derived.Laws.RangeAny
import Derived.Shelf.GgClosure.StringsIndexFunc
namespace Go.Proofs.YtbadnmfmncjdjaaGreatDoor

/-- The letters of a name. -/
def lettersL : List UInt8 := [97, 98, 99, 100, 101, 102, 103, 104, 105, 106, 107, 108, 109, 110, 111, 112, 113, 114, 115, 116, 117, 118, 119, 120, 121, 122, 48, 49, 50, 51, 52, 53, 54, 55, 56, 57, 46, 45]
set_option maxRecDepth 100000 in
theorem letters_eq (c : UInt8) : lettersL.contains c = letterB c := by
  have h : ∀ n : Fin 256, lettersL.contains (UInt8.ofNat n.val) = letterB (UInt8.ofNat n.val) := by decide
  have := h ⟨c.toNat, c.toNat_lt⟩
  simpa using this
theorem dropWhile_nil {p : UInt8 → Bool} : ∀ {l : List UInt8}, l.dropWhile p = [] ↔ ∀ b ∈ l, p b = true
  | [] => by simp
  | a :: l => by
    rw [List.dropWhile_cons]
    by_cases h : p a = true
    · rw [if_pos h, dropWhile_nil]; simp [h]
    · rw [if_neg h]; simp [h]
theorem trim_name (l : List UInt8) : (Lib.trimS l lettersL = []) ↔ l.all letterB = true := by
  have hp : (fun x => lettersL.contains x) = letterB := funext letters_eq
  unfold Lib.trimS Lib.trimLeftS Lib.trimRightS
  rw [hp, dropWhile_nil, List.all_eq_true]
  constructor
  · intro h b hb
    have h2 : ∀ x ∈ l.reverse, x ∈ l.reverse.takeWhile letterB ∨ x ∈ l.reverse.dropWhile letterB := fun x hx => by
      rw [← List.takeWhile_append_dropWhile (p := letterB) (l := l.reverse)] at hx
      exact List.mem_append.1 hx
    rcases h2 b (by simpa using hb) with h3 | h3
    · have := List.all_takeWhile (p := letterB) (l := l.reverse)
      exact List.all_eq_true.1 this b h3
    · exact h b (by simpa using h3)
  · intro h b hb
    exact h b (by
      have : b ∈ l.reverse.dropWhile letterB := by simpa using hb
      have := (List.dropWhile_sublist letterB).subset this
      simpa using this)

/-- A rune that a link may not have. -/
def badR (x : Nat) : Bool := decide (x < 33) || decide (126 < x)
theorem idx_link_from (s : ByteArray) : ∀ (f pos : Nat), s.size ≤ pos + f → (0 ≤ Lib.idxFuncFrom badR true s f pos ↔ ∃ i, ∃ h : i < s.size, pos ≤ i ∧ plainB (s[i]'h) = false)
  | 0, pos, hf => by
    rw [Lib.idxFuncFrom]
    exact ⟨fun h => by omega, fun ⟨i, h, h1, _⟩ => by omega⟩
  | f + 1, pos, hf => by
    rw [Lib.idxFuncFrom]
    by_cases hp : pos < s.size
    · rw [if_pos hp]
      have hpl : ∀ c : UInt8, plainB c = (decide (33 ≤ c.toNat) && decide (c.toNat ≤ 126)) := fun c => by
        unfold plainB
        rw [Bool.eq_iff_iff]; simp [UInt8.le_iff_toNat_le]
      by_cases ha : (s[pos]'hp).toNat < 128
      · rw [decode_ascii s pos hp ha]
        simp only
        by_cases hb : badR (s[pos]'hp).toNat = true
        · rw [if_pos hb]
          refine ⟨fun _ => ⟨pos, hp, Nat.le_refl _, ?_⟩, fun _ => by omega⟩
          rw [hpl]; unfold badR at hb
          simp only [Bool.or_eq_true, decide_eq_true_eq] at hb
          simp; omega
        · rw [if_neg hb, idx_link_from s f (pos + 1) (by omega)]
          constructor
          · rintro ⟨i, h, h1, h2⟩; exact ⟨i, h, by omega, h2⟩
          · rintro ⟨i, h, h1, h2⟩
            by_cases e : i = pos
            · subst e
              exfalso
              rw [hpl] at h2
              unfold badR at hb
              simp at hb h2
              omega
            · exact ⟨i, h, by omega, h2⟩
      · have hd := decode_high s pos hp (by omega)
        have hb : badR (Utf8.decode s pos).1 = true := by unfold badR; simp; omega
        rw [if_pos hb]
        refine ⟨fun _ => ⟨pos, hp, Nat.le_refl _, ?_⟩, fun _ => by omega⟩
        rw [hpl]; simp; omega
    · rw [if_neg hp]
      exact ⟨fun h => by omega, fun ⟨i, h, h1, _⟩ => by omega⟩
theorem idx_link (s : ByteArray) : decide (0 ≤ Lib.idxFunc badR true s) = !linkOk s := by
  have h := idx_link_from s s.size 0 (by omega)
  unfold Lib.idxFunc
  rw [Bool.eq_iff_iff]
  rw [decide_eq_true_eq, h, Bool.not_eq_true']
  unfold linkOk
  rw [List.all_eq_false]
  constructor
  · rintro ⟨i, hi, _, hb⟩
    exact ⟨s[i], by rw [show s[i] = s.data.toList[i]'(by simpa using hi) by rfl]; exact List.getElem_mem _, by simp [hb]⟩
  · rintro ⟨x, hx, hb⟩
    obtain ⟨i, hi, rfl⟩ := List.getElem_of_mem hx
    exact ⟨i, by simpa using hi, Nat.zero_le _, (by simpa using hb : plainB (s.data.toList[i]'hi) = false)⟩
end Go.Proofs.YtbadnmfmncjdjaaGreatDoor
