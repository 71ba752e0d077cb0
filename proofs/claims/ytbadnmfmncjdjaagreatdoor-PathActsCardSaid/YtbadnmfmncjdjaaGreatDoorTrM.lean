/- The contracts of tree.Name, link, shape. Condition: the text's length is an int's. -/
import Derived.Test.YtbadnmfmncjdjaaGreatDoorShelf
import Derived.Test.YtbadnmfmncjdjaaGreatDoorTrN
import Derived.Test.YtbadnmfmncjdjaaGreatDoorTrQ
import Derived.Test.YtbadnmfmncjdjaaGreatDoorTrS
import Derived.Shelf.Strings.SlTrimAscii
namespace Go.Proofs.YtbadnmfmncjdjaaGreatDoor
open Go.RowKit Go.Shelf

theorem trim_any (s : ByteArray) (w : World) (hs : s.size ≤ 9223372036854775807) :
    Calls Tryz.prog 76 #[.string s, .string ⟨#[97, 98, 99, 100, 101, 102, 103, 104, 105, 106, 107, 108, 109, 110, 111, 112, 113, 114, 115, 116, 117, 118, 119, 120, 121, 122, 48, 49, 50, 51, 52, 53, 54, 55, 56, 57, 46, 45]⟩] w
      fun e w' => e = .returned (.string ⟨(Lib.trimS s.data.toList lettersL).toArray⟩) ∧ Below w.heap.size w w' :=
  Any.strings_Trim_laid Tryz.lays160 (by kernel_rfl) s ⟨#[97, 98, 99, 100, 101, 102, 103, 104, 105, 106, 107, 108, 109, 110, 111, 112, 113, 114, 115, 116, 117, 118, 119, 120, 121, 122, 48, 49, 50, 51, 52, 53, 54, 55, 56, 57, 46, 45]⟩ w hs (by decide) (ascii_of_all (by decide))

theorem isEmpty_of {s : ByteArray} (h : s.size = 0) : s.toList.isEmpty = true := by
  rw [Lib.toList_data]; have : s.data.toList.length = 0 := by simpa using h
  rw [List.eq_nil_of_length_eq_zero this]; rfl
theorem isEmpty_no {s : ByteArray} (h : s.size ≠ 0) : s.toList.isEmpty = false := by
  rw [Lib.toList_data]
  cases hl : s.data.toList with
  | nil => exfalso; apply h; have : s.data.toList.length = s.size := by simp
           rw [hl] at this; simpa using this.symm
  | cons a r => rfl
theorem emp_list {s : ByteArray} (h : s.size = 0) : s.toList = [] := by
  have := isEmpty_of h; simpa using this
theorem emp_no {s : ByteArray} (h : s.size ≠ 0) : (s.toList == []) = false := by
  have := isEmpty_no h
  cases hl : s.toList with
  | nil => rw [hl] at this; cases this
  | cons a r => rfl

set_option maxRecDepth 100000 in
set_option maxHeartbeats 2000000 in
theorem name_any (s : ByteArray) (w : World) (hs : s.size ≤ 9223372036854775807) :
    Calls Tryz.prog 53 #[.string s] w fun e w' => e = .returned (.bool (isName s)) ∧ Below w.heap.size w w' := by
  by_cases h0 : s.size = 0
  · have HB : Hid (isName s = false) := hidd (by rw [name_parts, show decide (1 ≤ s.size) = false from decide_eq_false (by omega), Bool.false_and, Bool.and_false])
    have z1 := isEmpty_of h0
    have z2 := emp_list h0
    clear h0
    go_enter Tryz.func53, Tryz.ntmps53
    go_wp2_with fail
    go_ret
    exact ⟨ret_bool (by rw [HB.out]), Below.refl _ _⟩
  have z1 := isEmpty_no h0
  have z2 := emp_no h0
  have d1' : decide (1 ≤ s.size) = true := decide_eq_true (by omega)
  by_cases h2 : 12 < s.size
  · have d2 : decide ((s.size : Int) ≤ 12) = false := decide_eq_false (by omega)
    have d2' : decide (s.size ≤ 12) = false := decide_eq_false (by omega)
    have HB : Hid (isName s = false) := hidd (by rw [name_parts, d1', d2', Bool.false_and, Bool.and_false, Bool.and_false])
    go_enter Tryz.func53, Tryz.ntmps53
    go_wp2_with fail
    go_ret
    exact ⟨ret_bool (by rw [HB.out]), Below.refl _ _⟩
  have d2 : decide ((s.size : Int) ≤ 12) = true := decide_eq_true (by omega)
  have d2' : decide (s.size ≤ 12) = true := decide_eq_true (by omega)
  have HT := hidd (trim_any s w hs)
  have HN := hidd (trim_name s.data.toList)
  have HP := hidd (name_parts s)
  generalize hR : (⟨(Lib.trimS s.data.toList lettersL).toArray⟩ : ByteArray) = R at *
  have HR := hidd hR
  clear hR
  by_cases hr : R.size = 0
  · have HA : Hid (s.data.toList.all letterB = true) := hidd (HN.out.1 (by
      have h := congrArg ByteArray.size HR.out
      rw [hr] at h
      have h2 : (Lib.trimS s.data.toList lettersL).toArray.size = 0 := h
      exact List.eq_nil_of_length_eq_zero (by rw [List.size_toArray] at h2; exact h2)))
    have HB0 : Hid (isName s = ((!(s.toList == [46])) && !(s.toList == [46, 46]))) := hidd (by rw [HP.out, d1', d2', HA.out, Bool.true_and, Bool.true_and, Bool.true_and])
    have y1 := isEmpty_of hr
    have y2 := emp_list hr
    cases h3 : s.toList == [46]
    · have h3' : (s.toList != [46]) = true := by simpa using h3
      cases h4 : s.toList == [46, 46]
      · have h4' : (s.toList != [46, 46]) = true := by simpa using h4
        have HB : Hid (isName s = true) := hidd (by rw [HB0.out, h3, h4]; rfl)
        go_enter Tryz.func53, Tryz.ntmps53
        go_wp2_with fail
        refine HT.out.mono ?_
        rintro e w' ⟨rfl, hb⟩
        go_wp2_with fail
        go_ret
        exact ⟨ret_bool (by rw [HB.out]), hb⟩
      · have h4' : (s.toList != [46, 46]) = false := by simpa using h4
        have HB : Hid (isName s = false) := hidd (by rw [HB0.out, h3, h4]; rfl)
        go_enter Tryz.func53, Tryz.ntmps53
        go_wp2_with fail
        refine HT.out.mono ?_
        rintro e w' ⟨rfl, hb⟩
        go_wp2_with fail
        go_ret
        exact ⟨ret_bool (by rw [HB.out]), hb⟩
    · have h3' : (s.toList != [46]) = false := by simpa using h3
      have HB : Hid (isName s = false) := hidd (by rw [HB0.out, h3]; rfl)
      go_enter Tryz.func53, Tryz.ntmps53
      go_wp2_with fail
      refine HT.out.mono ?_
      rintro e w' ⟨rfl, hb⟩
      go_wp2_with fail
      go_ret
      exact ⟨ret_bool (by rw [HB.out]), hb⟩
  · have HA : Hid (s.data.toList.all letterB = false) := hidd (by
      cases ha : s.data.toList.all letterB with
      | false => rfl
      | true =>
        exfalso; apply hr
        rw [← HR.out, HN.out.2 ha]; rfl)
    have HB : Hid (isName s = false) := hidd (by rw [HP.out, HA.out, Bool.false_and])
    have y1 := isEmpty_no hr
    have y2 := emp_no hr
    go_enter Tryz.func53, Tryz.ntmps53
    go_wp2_with fail
    refine HT.out.mono ?_
    rintro e w' ⟨rfl, hb⟩
    go_wp2_with fail
    go_ret
    exact ⟨ret_bool (by rw [HB.out]), hb⟩

theorem link_cl (x : Nat) (hx : x ≤ 1114111) (w : World) : Calls Tryz.prog 125 #[.int .i32 (x : Int)] w fun e w' => e = .returned (.bool (badR x)) ∧ w' = w := by
  by_cases h1 : x < 33
  · have HB : Hid (badR x = true) := hidd (by unfold badR; simp [h1])
    have d1 : decide ((x : Int) < 33) = true := decide_eq_true (by omega)
    go_enter Tryz.func125, Tryz.ntmps125
    go_wp2
    go_ret
    exact ⟨ret_bool (by rw [HB.out]), rfl⟩
  · have d1 : decide ((x : Int) < 33) = false := decide_eq_false (by omega)
    by_cases h2 : 126 < x
    · have HB : Hid (badR x = true) := hidd (by unfold badR; simp [h2])
      have d2 : decide ((126 : Int) < (x : Int)) = true := decide_eq_true (by omega)
      go_enter Tryz.func125, Tryz.ntmps125
      go_wp2
      go_ret
      exact ⟨ret_bool (by rw [HB.out]), rfl⟩
    · have HB : Hid (badR x = false) := hidd (by unfold badR; simp [h1, h2])
      have d2 : decide ((126 : Int) < (x : Int)) = false := decide_eq_false (by omega)
      go_enter Tryz.func125, Tryz.ntmps125
      go_wp2
      go_ret
      exact ⟨ret_bool (by rw [HB.out]), rfl⟩

theorem link_any (s : ByteArray) (w : World) :
    Calls Tryz.prog 108 #[.string s] w fun e w' => e = .returned (.bool (linkOk s)) ∧ Below w.heap.size w w' := by
  have HC := hidd (Tryz.strings_ContainsFunc_runes 125 #[] (enters_of Tryz.func125 (by kernel_rfl) rfl) badR s w (fun W x hx _ => (link_cl x hx W).mono fun e w' ⟨he, hw⟩ => ⟨he, 0, by rw [hw]; rfl⟩))
  rw [idx_link] at HC
  cases hl : linkOk s
  all_goals
    rw [hl] at HC
    clear hl
    go_enter Tryz.func108, Tryz.ntmps108
    go_wp2_with fail
    refine HC.out.mono ?_
    rintro e w' ⟨rfl, hb⟩
    go_wp2_with fail
    go_ret
    exact ⟨rfl, hb⟩
end Go.Proofs.YtbadnmfmncjdjaaGreatDoor
