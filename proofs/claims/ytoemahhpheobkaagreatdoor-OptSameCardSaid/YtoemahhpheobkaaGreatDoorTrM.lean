/- The contracts of the reference's IsLetter and IsName. Condition: the text's length is an int's. · What the library's functions on texts answer about names and links, in plain words. No condition. · The contracts of tree.Name, link, shape. Condition: the text's length is an int's. -/
import Derived.Test.YtoemahhpheobkaaGreatDoorTrO
import Derived.Test.YtoemahhpheobkaaGreatDoorProg
import Derived.Lib.Strings
import Derived.Test.YtoemahhpheobkaaGreatDoorB
import Derived.WalkLawsBesides
import Derived.Lib.Hide
import Derived.WideShapes
import Derived.Lib.SlTrimSet
import Derived.Laws.RangeString
import Derived.Laws.RangeAny
import Derived.Shelf.GgClosure.StringsIndexFunc
import Derived.Test.YtoemahhpheobkaaGreatDoorShelf
import Derived.Shelf.Strings.SlTrimAscii
namespace Go.Proofs.YtoemahhpheobkaaGreatDoor
open Go.RowKit

theorem letter_iff (c : UInt8) : letterB c = true ↔ c.toNat = 45 ∨ c.toNat = 46 ∨ (48 ≤ c.toNat ∧ c.toNat ≤ 57) ∨ (97 ≤ c.toNat ∧ c.toNat ≤ 122) := by
  unfold letterB
  simp only [Bool.or_eq_true, Bool.and_eq_true, decide_eq_true_eq, beq_iff_eq, UInt8.le_iff_toNat_le, ← UInt8.toNat_inj]
  have e : ∀ n : Nat, n < 256 → (UInt8.ofNat n).toNat = n := fun n h => by simp; omega
  constructor
  · rintro (((h | h) | h) | h)
    · exact .inr (.inr (.inr h))
    · exact .inr (.inr (.inl h))
    · exact .inr (.inl h)
    · exact .inl h
  · rintro (h | h | h | h)
    · exact .inr h
    · exact .inl (.inr h)
    · exact .inl (.inl (.inr h))
    · exact .inl (.inl (.inl h))
theorem ret_bool {a b : Bool} (h : a = b) : Ending.returned (.bool a) = .returned (.bool b) := by rw [h]
theorem name_parts (s : ByteArray) : isName s = (s.data.toList.all letterB && (decide (1 ≤ s.size) && (decide (s.size ≤ 12) && ((!(s.toList == [46])) && !(s.toList == [46, 46]))))) := by
  unfold isName
  rw [Lib.toList_data]
  have e1 : (decide (s.data.toList = [46])) = (s.data.toList == [46]) := by rw [Bool.eq_iff_iff]; simp
  have e2 : (decide (s.data.toList = [46, 46])) = (s.data.toList == [46, 46]) := by rw [Bool.eq_iff_iff]; simp
  rw [e1, e2]
  simp only [Bool.and_assoc]

end Go.Proofs.YtoemahhpheobkaaGreatDoor

namespace Go.Proofs.YtoemahhpheobkaaGreatDoor

/-- The letters of a name. -/
def lettersL : List UInt8 := [97, 98, 99, 100, 101, 102, 103, 104, 105, 106, 107, 108, 109, 110, 111, 112, 113, 114, 115, 116, 117, 118, 119, 120, 121, 122, 48, 49, 50, 51, 52, 53, 54, 55, 56, 57, 46, 45]
set_option maxRecDepth 100000 in
theorem letters_eq (c : UInt8) : lettersL.contains c = letterB c := by
  have h : ∀ n : Fin 256, lettersL.contains (UInt8.ofNat n.val) = letterB (UInt8.ofNat n.val) := by decide
  have := h ⟨c.toNat, c.toNat_lt⟩
  simpa using this
theorem dropWhile_nil {p : UInt8 → Bool} : ∀ {l : List UInt8}, l.dropWhile p = [] ↔ ∀ b ∈ l, p b = true
  | [] => by simp
  | a :: l => by
    rw [List.dropWhile_cons]
    by_cases h : p a = true
    · rw [if_pos h, dropWhile_nil]; simp [h]
    · rw [if_neg h]; simp [h]
theorem trim_name (l : List UInt8) : (Lib.trimS l lettersL = []) ↔ l.all letterB = true := by
  have hp : (fun x => lettersL.contains x) = letterB := funext letters_eq
  unfold Lib.trimS Lib.trimLeftS Lib.trimRightS
  rw [hp, dropWhile_nil, List.all_eq_true]
  constructor
  · intro h b hb
    have h2 : ∀ x ∈ l.reverse, x ∈ l.reverse.takeWhile letterB ∨ x ∈ l.reverse.dropWhile letterB := fun x hx => by
      rw [← List.takeWhile_append_dropWhile (p := letterB) (l := l.reverse)] at hx
      exact List.mem_append.1 hx
    rcases h2 b (by simpa using hb) with h3 | h3
    · have := List.all_takeWhile (p := letterB) (l := l.reverse)
      exact List.all_eq_true.1 this b h3
    · exact h b (by simpa using h3)
  · intro h b hb
    exact h b (by
      have : b ∈ l.reverse.dropWhile letterB := by simpa using hb
      have := (List.dropWhile_sublist letterB).subset this
      simpa using this)

/-- A rune that a link may not have. -/
def badR (x : Nat) : Bool := decide (x < 33) || decide (126 < x)
theorem idx_link_from (s : ByteArray) : ∀ (f pos : Nat), s.size ≤ pos + f → (0 ≤ Lib.idxFuncFrom badR true s f pos ↔ ∃ i, ∃ h : i < s.size, pos ≤ i ∧ plainB (s[i]'h) = false)
  | 0, pos, hf => by
    rw [Lib.idxFuncFrom]
    exact ⟨fun h => by omega, fun ⟨i, h, h1, _⟩ => by omega⟩
  | f + 1, pos, hf => by
    rw [Lib.idxFuncFrom]
    by_cases hp : pos < s.size
    · rw [if_pos hp]
      have hpl : ∀ c : UInt8, plainB c = (decide (33 ≤ c.toNat) && decide (c.toNat ≤ 126)) := fun c => by
        unfold plainB
        rw [Bool.eq_iff_iff]; simp [UInt8.le_iff_toNat_le]
      by_cases ha : (s[pos]'hp).toNat < 128
      · rw [decode_ascii s pos hp ha]
        simp only
        by_cases hb : badR (s[pos]'hp).toNat = true
        · rw [if_pos hb]
          refine ⟨fun _ => ⟨pos, hp, Nat.le_refl _, ?_⟩, fun _ => by omega⟩
          rw [hpl]; unfold badR at hb
          simp only [Bool.or_eq_true, decide_eq_true_eq] at hb
          simp; omega
        · rw [if_neg hb, idx_link_from s f (pos + 1) (by omega)]
          constructor
          · rintro ⟨i, h, h1, h2⟩; exact ⟨i, h, by omega, h2⟩
          · rintro ⟨i, h, h1, h2⟩
            by_cases e : i = pos
            · subst e
              exfalso
              rw [hpl] at h2
              unfold badR at hb
              simp at hb h2
              omega
            · exact ⟨i, h, by omega, h2⟩
      · have hd := decode_high s pos hp (by omega)
        have hb : badR (Utf8.decode s pos).1 = true := by unfold badR; simp; omega
        rw [if_pos hb]
        refine ⟨fun _ => ⟨pos, hp, Nat.le_refl _, ?_⟩, fun _ => by omega⟩
        rw [hpl]; simp; omega
    · rw [if_neg hp]
      exact ⟨fun h => by omega, fun ⟨i, h, h1, _⟩ => by omega⟩
theorem idx_link (s : ByteArray) : decide (0 ≤ Lib.idxFunc badR true s) = !linkOk s := by
  have h := idx_link_from s s.size 0 (by omega)
  unfold Lib.idxFunc
  rw [Bool.eq_iff_iff]
  rw [decide_eq_true_eq, h, Bool.not_eq_true']
  unfold linkOk
  rw [List.all_eq_false]
  constructor
  · rintro ⟨i, hi, _, hb⟩
    exact ⟨s[i], by rw [show s[i] = s.data.toList[i]'(by simpa using hi) by rfl]; exact List.getElem_mem _, by simp [hb]⟩
  · rintro ⟨x, hx, hb⟩
    obtain ⟨i, hi, rfl⟩ := List.getElem_of_mem hx
    exact ⟨i, by simpa using hi, Nat.zero_le _, (by simpa using hb : plainB (s.data.toList[i]'hi) = false)⟩
end Go.Proofs.YtoemahhpheobkaaGreatDoor

namespace Go.Proofs.YtoemahhpheobkaaGreatDoor
open Go.RowKit Go.Shelf

theorem trim_any (s : ByteArray) (w : World) (hs : s.size ≤ 9223372036854775807) :
    Calls Tryz.prog 100 #[.string s, .string ⟨#[97, 98, 99, 100, 101, 102, 103, 104, 105, 106, 107, 108, 109, 110, 111, 112, 113, 114, 115, 116, 117, 118, 119, 120, 121, 122, 48, 49, 50, 51, 52, 53, 54, 55, 56, 57, 46, 45]⟩] w
      fun e w' => e = .returned (.string ⟨(Lib.trimS s.data.toList lettersL).toArray⟩) ∧ Below w.heap.size w w' :=
  Any.strings_Trim_laid Tryz.lays160 (by kernel_rfl) s ⟨#[97, 98, 99, 100, 101, 102, 103, 104, 105, 106, 107, 108, 109, 110, 111, 112, 113, 114, 115, 116, 117, 118, 119, 120, 121, 122, 48, 49, 50, 51, 52, 53, 54, 55, 56, 57, 46, 45]⟩ w hs (by decide) (ascii_of_all (by decide))

theorem isEmpty_of {s : ByteArray} (h : s.size = 0) : s.toList.isEmpty = true := by
  rw [Lib.toList_data]; have : s.data.toList.length = 0 := by simpa using h
  rw [List.eq_nil_of_length_eq_zero this]; rfl
theorem isEmpty_no {s : ByteArray} (h : s.size ≠ 0) : s.toList.isEmpty = false := by
  rw [Lib.toList_data]
  cases hl : s.data.toList with
  | nil => exfalso; apply h; have : s.data.toList.length = s.size := by simp
           rw [hl] at this; simpa using this.symm
  | cons a r => rfl
theorem emp_list {s : ByteArray} (h : s.size = 0) : s.toList = [] := by
  have := isEmpty_of h; simpa using this
theorem emp_no {s : ByteArray} (h : s.size ≠ 0) : (s.toList == []) = false := by
  have := isEmpty_no h
  cases hl : s.toList with
  | nil => rw [hl] at this; cases this
  | cons a r => rfl

set_option maxRecDepth 100000 in
set_option maxHeartbeats 2000000 in
theorem name_any (s : ByteArray) (w : World) (hs : s.size ≤ 9223372036854775807) :
    Calls Tryz.prog 77 #[.string s] w fun e w' => e = .returned (.bool (isName s)) ∧ Below w.heap.size w w' := by
  by_cases h0 : s.size = 0
  · have HB : Hid (isName s = false) := hidd (by rw [name_parts, show decide (1 ≤ s.size) = false from decide_eq_false (by omega), Bool.false_and, Bool.and_false])
    have z1 := isEmpty_of h0
    have z2 := emp_list h0
    clear h0
    go_enter Tryz.func77, Tryz.ntmps77
    go_wp2_with fail
    go_ret
    exact ⟨ret_bool (by rw [HB.out]), Below.refl _ _⟩
  have z1 := isEmpty_no h0
  have z2 := emp_no h0
  have d1' : decide (1 ≤ s.size) = true := decide_eq_true (by omega)
  by_cases h2 : 12 < s.size
  · have d2 : decide ((s.size : Int) ≤ 12) = false := decide_eq_false (by omega)
    have d2' : decide (s.size ≤ 12) = false := decide_eq_false (by omega)
    have HB : Hid (isName s = false) := hidd (by rw [name_parts, d1', d2', Bool.false_and, Bool.and_false, Bool.and_false])
    go_enter Tryz.func77, Tryz.ntmps77
    go_wp2_with fail
    go_ret
    exact ⟨ret_bool (by rw [HB.out]), Below.refl _ _⟩
  have d2 : decide ((s.size : Int) ≤ 12) = true := decide_eq_true (by omega)
  have d2' : decide (s.size ≤ 12) = true := decide_eq_true (by omega)
  have HT := hidd (trim_any s w hs)
  have HN := hidd (trim_name s.data.toList)
  have HP := hidd (name_parts s)
  generalize hR : (⟨(Lib.trimS s.data.toList lettersL).toArray⟩ : ByteArray) = R at *
  have HR := hidd hR
  clear hR
  by_cases hr : R.size = 0
  · have HA : Hid (s.data.toList.all letterB = true) := hidd (HN.out.1 (by
      have h := congrArg ByteArray.size HR.out
      rw [hr] at h
      have h2 : (Lib.trimS s.data.toList lettersL).toArray.size = 0 := h
      exact List.eq_nil_of_length_eq_zero (by rw [List.size_toArray] at h2; exact h2)))
    have HB0 : Hid (isName s = ((!(s.toList == [46])) && !(s.toList == [46, 46]))) := hidd (by rw [HP.out, d1', d2', HA.out, Bool.true_and, Bool.true_and, Bool.true_and])
    have y1 := isEmpty_of hr
    have y2 := emp_list hr
    cases h3 : s.toList == [46]
    · have h3' : (s.toList != [46]) = true := by simpa using h3
      cases h4 : s.toList == [46, 46]
      · have h4' : (s.toList != [46, 46]) = true := by simpa using h4
        have HB : Hid (isName s = true) := hidd (by rw [HB0.out, h3, h4]; rfl)
        go_enter Tryz.func77, Tryz.ntmps77
        go_wp2_with fail
        refine HT.out.mono ?_
        rintro e w' ⟨rfl, hb⟩
        go_wp2_with fail
        go_ret
        exact ⟨ret_bool (by rw [HB.out]), hb⟩
      · have h4' : (s.toList != [46, 46]) = false := by simpa using h4
        have HB : Hid (isName s = false) := hidd (by rw [HB0.out, h3, h4]; rfl)
        go_enter Tryz.func77, Tryz.ntmps77
        go_wp2_with fail
        refine HT.out.mono ?_
        rintro e w' ⟨rfl, hb⟩
        go_wp2_with fail
        go_ret
        exact ⟨ret_bool (by rw [HB.out]), hb⟩
    · have h3' : (s.toList != [46]) = false := by simpa using h3
      have HB : Hid (isName s = false) := hidd (by rw [HB0.out, h3]; rfl)
      go_enter Tryz.func77, Tryz.ntmps77
      go_wp2_with fail
      refine HT.out.mono ?_
      rintro e w' ⟨rfl, hb⟩
      go_wp2_with fail
      go_ret
      exact ⟨ret_bool (by rw [HB.out]), hb⟩
  · have HA : Hid (s.data.toList.all letterB = false) := hidd (by
      cases ha : s.data.toList.all letterB with
      | false => rfl
      | true =>
        exfalso; apply hr
        rw [← HR.out, HN.out.2 ha]; rfl)
    have HB : Hid (isName s = false) := hidd (by rw [HP.out, HA.out, Bool.false_and])
    have y1 := isEmpty_no hr
    have y2 := emp_no hr
    go_enter Tryz.func77, Tryz.ntmps77
    go_wp2_with fail
    refine HT.out.mono ?_
    rintro e w' ⟨rfl, hb⟩
    go_wp2_with fail
    go_ret
    exact ⟨ret_bool (by rw [HB.out]), hb⟩

theorem link_cl (x : Nat) (hx : x ≤ 1114111) (w : World) : Calls Tryz.prog 142 #[.int .i32 (x : Int)] w fun e w' => e = .returned (.bool (badR x)) ∧ w' = w := by
  by_cases h1 : x < 33
  · have HB : Hid (badR x = true) := hidd (by unfold badR; simp [h1])
    have d1 : decide ((x : Int) < 33) = true := decide_eq_true (by omega)
    go_enter Tryz.func142, Tryz.ntmps142
    go_wp2
    go_ret
    exact ⟨ret_bool (by rw [HB.out]), rfl⟩
  · have d1 : decide ((x : Int) < 33) = false := decide_eq_false (by omega)
    by_cases h2 : 126 < x
    · have HB : Hid (badR x = true) := hidd (by unfold badR; simp [h2])
      have d2 : decide ((126 : Int) < (x : Int)) = true := decide_eq_true (by omega)
      go_enter Tryz.func142, Tryz.ntmps142
      go_wp2
      go_ret
      exact ⟨ret_bool (by rw [HB.out]), rfl⟩
    · have HB : Hid (badR x = false) := hidd (by unfold badR; simp [h1, h2])
      have d2 : decide ((126 : Int) < (x : Int)) = false := decide_eq_false (by omega)
      go_enter Tryz.func142, Tryz.ntmps142
      go_wp2
      go_ret
      exact ⟨ret_bool (by rw [HB.out]), rfl⟩

theorem link_any (s : ByteArray) (w : World) :
    Calls Tryz.prog 108 #[.string s] w fun e w' => e = .returned (.bool (linkOk s)) ∧ Below w.heap.size w w' := by
  have HC := hidd (Tryz.strings_ContainsFunc_runes 142 #[] (enters_of Tryz.func142 (by kernel_rfl) rfl) badR s w (fun W x hx _ => (link_cl x hx W).mono fun e w' ⟨he, hw⟩ => ⟨he, 0, by rw [hw]; rfl⟩))
  rw [idx_link] at HC
  cases hl : linkOk s
  all_goals
    rw [hl] at HC
    clear hl
    go_enter Tryz.func108, Tryz.ntmps108
    go_wp2_with fail
    refine HC.out.mono ?_
    rintro e w' ⟨rfl, hb⟩
    go_wp2_with fail
    go_ret
    exact ⟨rfl, hb⟩
end Go.Proofs.YtoemahhpheobkaaGreatDoor
