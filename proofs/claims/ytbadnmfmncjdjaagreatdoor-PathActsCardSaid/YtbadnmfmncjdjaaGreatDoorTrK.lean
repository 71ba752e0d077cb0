/- The contract of tree.own. Condition: the node is there, the variables read as listed. -/
import Derived.Test.YtbadnmfmncjdjaaGreatDoorTrM
import Derived.Test.YtbadnmfmncjdjaaGreatDoorCoded
namespace Go.Proofs.YtbadnmfmncjdjaaGreatDoor
open Go.RowKit Go.Shelf

/-- An error by its number. -/
def evc (E : Nat → Addr) (c : Nat) : Value := if c = 0 then .nilIface else erv E (codeGs.getD (c - 1) 0)
theorem evc_zero (E : Nat → Addr) : evc E 0 = .nilIface := rfl
/-- The sentinels that trees and paths reach. -/
def trGs : List Nat := [4, 5, 1, 6, 2, 0, 8, 3, 9]
theorem Env.tr {B : Nat} {w : World} {E : Nat → Addr} (h : Env codeGs B w E) : Env trGs B w E := h.sub (by decide)

theorem rising_snoc : ∀ (l : List ByteArray) (y x : ByteArray), rising (l ++ [y] ++ [x]) = (rising (l ++ [y]) && !leB x y)
  | [], y, x => by simp [rising]
  | [a], y, x => by simp [rising]
  | a :: b :: l, y, x => by
    have := rising_snoc (b :: l) y x
    simp only [List.cons_append, rising] at this ⊢
    rw [this, Bool.and_assoc]
theorem rising_take {l : List ByteArray} {k : Nat} (h1 : 1 ≤ k) (h : k < l.length) : rising (l.take (k + 1)) = (rising (l.take k) && !leB l[k] (l[k - 1]'(by omega))) := by
  have e := List.take_succ_eq_append_getElem (l := l) (i := k - 1) (by omega)
  rw [show k - 1 + 1 = k by omega] at e
  rw [List.take_succ_eq_append_getElem h, e]
  exact rising_snoc _ _ _
theorem rising_front : ∀ (l r : List ByteArray), rising (l ++ r) = true → rising l = true
  | [], _, _ => rfl
  | [a], _, _ => rfl
  | a :: b :: l, r, h => by
    simp only [List.cons_append, rising, Bool.and_eq_true] at h ⊢
    exact ⟨h.1, rising_front (b :: l) r (by simpa using h.2)⟩
theorem rising_le_one {l : List ByteArray} (h : l.length ≤ 1) : rising l = true := by
  match l, h with
  | [], _ => rfl
  | [a], _ => rfl

def kvl (x : ByteArray × Lt) : Value := .agg #[.string x.1, .string x.2.kind, .string x.2.data, .bool x.2.exec, x.2.v]
theorem own_cl (x : ByteArray × Lt) (w : World) (hs : x.1.size ≤ 140737488351232) :
    Calls Tryz.prog 110 #[kvl x] w fun e w' => e = .returned (.bool (!isName x.1)) ∧ Below w.heap.size w w' := by
  unfold kvl
  have hb1 : Below w.heap.size w (w.alloc (.cells #[.string x.1, .string x.2.kind, .string x.2.data, .bool x.2.exec, x.2.v] 67)) := (Below.refl _ _).alloc (Nat.le_refl _) _
  have HC := hidd (name_any x.1 (w.alloc (.cells #[.string x.1, .string x.2.kind, .string x.2.data, .bool x.2.exec, x.2.v] 67)) (by omega))
  cases hn : isName x.1
  all_goals
    rw [hn] at HC
    clear hn
    go_enter Tryz.func110, Tryz.ntmps110
    go_wp2_with fail
    refine HC.out.mono ?_
    rintro e w' ⟨rfl, hb⟩
    go_wp2_with fail
    go_ret
    exact ⟨rfl, hb1.trans (hb.mono hb1.size)⟩

def IdxK (q : Bool) (w : World) (e : Ending) (w' : World) : Prop := (∃ k : Int, e = .returned (.int .i64 k) ∧ (0 ≤ k ↔ q = true)) ∧ Below w.heap.size w w'
def badK (x : ByteArray × Lt) : Bool := !isName x.1

set_option maxRecDepth 100000 in
set_option maxHeartbeats 2000000 in
theorem kid_idx (t : Lt) (w : World) (ht : t.Ok w) :
    Calls Tryz.prog 126 #[t.v, .func (.func 110) #[] #[]] w (IdxK (t.kids.any badK) w) := by
  obtain ⟨a, cap, hv⟩ := ht.shape
  have hm := ht.le
  obtain ⟨kd, da, ex, v, ks⟩ := t
  simp only [Tr.v, Tr.kids] at *
  subst hv
  go_enter Tryz.func126, Tryz.ntmps126
  go_wp2_with fail
  go_loopw [8] (fun i wr => ∃ k : Nat, k ≤ ks.length ∧ i = .int .i64 (k : Int) ∧ (ks.take k).any badK = false ∧ Below w.heap.size w wr) (fun i _ => ks.length - (intOf i).toNat)
  case atStart => exact ⟨0, Nat.zero_le _, rfl, by simp, Below.refl _ _⟩
  case round =>
    obtain ⟨k, hk, rfl, hnot, hbel⟩ := hrel
    by_cases hlt : k < ks.length
    · have hA := ht.ob hbel
      have hnm := hA.names _ (List.getElem_mem hlt)
      obtain ⟨b1, o1, rfl, hb1, a0, a1, a2, a3, a4⟩ := hA.at5 rfl hlt
      simp only [Tr.kids] at a0 a1 a2 a3 a4 hnm
      have p1 : (0 : Int) ≤ (k : Int) := by omega
      have p2 : (k : Int) < (ks.length : Int) := by omega
      have hs : (ks.take (k + 1)).any badK = badK ks[k] := by
        rw [List.take_succ_eq_append_getElem hlt, List.any_append, hnot]; simp
      have hin : badK ks[k] = true → ks.any badK = true := fun h => by rw [List.any_eq_true]; exact ⟨ks[k], List.getElem_mem _, h⟩
      generalize ks[k] = x at *
      have HC := hidd (own_cl x wr hnm)
      change Hid (Calls _ _ #[.agg #[.string x.1, .string x.2.kind, .string x.2.data, .bool x.2.exec, x.2.v]] _ _) at HC
      cases hx : badK x
      · have hx' : (!isName x.1) = false := hx
        rw [hx'] at HC
        rw [hx] at hs
        have HS := hidd hs
        clear hs hin hx hx' hnot hA ht
        go_wp2_with fail
        refine HC.out.mono ?_
        rintro e w5 ⟨rfl, hb5⟩
        have hB5 := hbel.trans (hb5.mono hbel.size)
        clear a0 a1 a2 a3 a4 hb5
        go_wp2_with fail
        go_roundw
        case rel => exact ⟨k + 1, by omega, by go_num, HS.out, hB5⟩
        case measure => simp [intOf]; omega
      · have hx' : (!isName x.1) = true := hx
        rw [hx'] at HC
        have HI := hidd (hin hx)
        clear hs hin hx hx' hnot hA ht
        go_wp2_with fail
        refine HC.out.mono ?_
        rintro e w5 ⟨rfl, hb5⟩
        have hB5 := hbel.trans (hb5.mono hbel.size)
        clear a0 a1 a2 a3 a4 hb5
        go_wp2_with fail
        go_ret
        exact ⟨⟨_, rfl, by simp [HI.out]⟩, hB5⟩
    · rw [List.take_of_length_le (by omega)] at hnot
      have HI := hidd hnot
      clear hnot ht
      go_wp2_with fail
      go_ret
      exact ⟨⟨-1, rfl, by simp [HI.out]⟩, hbel⟩

theorem kid_any (t : Lt) (w : World) (ht : t.Ok w) (q : Bool) (hq : t.kids.any badK = q) :
    Calls Tryz.prog 109 #[t.v, .func (.func 110) #[] #[]] w fun e w' => e = .returned (.bool q) ∧ Below w.heap.size w w' := by
  have HC := hidd (kid_idx t w ht)
  rw [hq] at HC
  clear hq ht
  generalize t.v = v at *
  cases q
  · go_enter Tryz.func109, Tryz.ntmps109
    go_wp2_with fail
    refine HC.out.mono ?_
    rintro e w' ⟨⟨k, rfl, hk⟩, hb⟩
    have hk0 : ¬ 0 ≤ k := fun h0 => by have := hk.1 h0; cases this
    clear hk
    go_wp2_with fail
    go_ret
    exact ⟨ret_bool (by simp; omega), hb⟩
  · go_enter Tryz.func109, Tryz.ntmps109
    go_wp2_with fail
    refine HC.out.mono ?_
    rintro e w' ⟨⟨k, rfl, hk⟩, hb⟩
    have hk0 : 0 ≤ k := hk.2 rfl
    clear hk
    go_wp2_with fail
    go_ret
    exact ⟨ret_bool (by simp), hb⟩

theorem kindTests (k : ByteArray) : (k = kFile ∧ (k.toList == [102, 105, 108, 101]) = true ∧ (k.toList == [100, 105, 114]) = false ∧ (k.toList == [108, 105, 110, 107]) = false) ∨
    (k = kDir ∧ (k.toList == [102, 105, 108, 101]) = false ∧ (k.toList == [100, 105, 114]) = true ∧ (k.toList == [108, 105, 110, 107]) = false) ∨
    (k = kLink ∧ (k.toList == [102, 105, 108, 101]) = false ∧ (k.toList == [100, 105, 114]) = false ∧ (k.toList == [108, 105, 110, 107]) = true) ∨
    ((k ≠ kFile ∧ k ≠ kDir ∧ k ≠ kLink) ∧ (k.toList == [102, 105, 108, 101]) = false ∧ (k.toList == [100, 105, 114]) = false ∧ (k.toList == [108, 105, 110, 107]) = false) := by
  have e1 : kFile.toList = [102, 105, 108, 101] := by rw [Lib.toList_data]; rfl
  have e2 : kDir.toList = [100, 105, 114] := by rw [Lib.toList_data]; rfl
  have e3 : kLink.toList = [108, 105, 110, 107] := by rw [Lib.toList_data]; rfl
  by_cases h1 : k = kFile
  · subst h1; rw [e1]; exact .inl ⟨rfl, by decide, by decide, by decide⟩
  by_cases h2 : k = kDir
  · subst h2; rw [e2]; exact .inr (.inl ⟨rfl, by decide, by decide, by decide⟩)
  by_cases h3 : k = kLink
  · subst h3; rw [e3]; exact .inr (.inr (.inl ⟨rfl, by decide, by decide, by decide⟩))
  refine .inr (.inr (.inr ⟨⟨h1, h2, h3⟩, ?_, ?_, ?_⟩))
  · rw [← e1]; exact beq_str h1
  · rw [← e2]; exact beq_str h2
  · rw [← e3]; exact beq_str h3

set_option maxRecDepth 100000 in
set_option maxHeartbeats 2000000 in
theorem shape_any (t : Lt) (w : World) (ht : t.Ok w) : Calls Tryz.prog 107 #[nval t] w fun e w' => e = .returned (.bool (shapeB t)) ∧ Below w.heap.size w w' := by
  obtain ⟨a, cap, hv⟩ := ht.shape
  obtain ⟨kd, da, ex, v, ks⟩ := t
  have hsb : shapeB (.mk kd da ex v ks : Lt) = if kd = kFile then decide (ks.length = 0) else if kd = kDir then decide (da.size = 0) && !ex else !ex && decide (ks.length = 0) := rfl
  simp only [Tr.v, Tr.kids] at *
  subst hv
  unfold nval
  simp only [Tr.kind, Tr.data, Tr.exec, Tr.v]
  have n1 : ¬ kDir = kFile := by decide
  have n2 : ¬ kLink = kFile := by decide
  have n3 : ¬ kLink = kDir := by decide
  have hB : Below w.heap.size w (w.alloc (.cells #[.string kd, .string da, .bool ex, .slice a ks.length cap] 24)) := (Below.refl _ _).alloc (Nat.le_refl _) _
  clear ht
  have hk0 : (ks.length = 0 ∧ ((ks.length : Int) == 0) = true) ∨ (ks.length ≠ 0 ∧ ((ks.length : Int) == 0) = false) := by
    by_cases h : ks.length = 0
    · exact .inl ⟨h, by simp [h]⟩
    · exact .inr ⟨h, by simp; exact fun e => h (by rw [e]; rfl)⟩
  have hd0 : (da.size = 0 ∧ da.toList.isEmpty = true ∧ da.toList = []) ∨ (da.size ≠ 0 ∧ da.toList.isEmpty = false ∧ (da.toList == []) = false) := by
    by_cases h : da.size = 0
    · exact .inl ⟨h, isEmpty_of h, emp_list h⟩
    · exact .inr ⟨h, isEmpty_no h, emp_no h⟩
  rcases kindTests kd with ⟨hk, q1, q2, q3⟩ | ⟨hk, q1, q2, q3⟩ | ⟨hk, q1, q2, q3⟩ | ⟨hk, q1, q2, q3⟩
  · rcases hk0 with ⟨k0, k1⟩ | ⟨k0, k1⟩
    · have HB : Hid (shapeB (.mk kd da ex (.slice a ks.length cap) ks : Lt) = true) := hidd (by rw [hsb, if_pos hk, decide_eq_true k0])
      clear hk hsb k0 hd0
      go_enter Tryz.func107, Tryz.ntmps107
      go_wp2_with fail
      go_ret
      exact ⟨ret_bool HB.out.symm, hB⟩
    · have HB : Hid (shapeB (.mk kd da ex (.slice a ks.length cap) ks : Lt) = false) := hidd (by rw [hsb, if_pos hk, decide_eq_false k0])
      clear hk hsb k0 hd0
      go_enter Tryz.func107, Tryz.ntmps107
      go_wp2_with fail
      go_ret
      exact ⟨ret_bool HB.out.symm, hB⟩
  · rcases hd0 with ⟨d0, d1, d2⟩ | ⟨d0, d1, d2⟩
    · have HB : Hid (shapeB (.mk kd da ex (.slice a ks.length cap) ks : Lt) = !ex) := hidd (by rw [hsb, hk, if_neg n1, if_pos rfl, decide_eq_true d0, Bool.true_and])
      clear hk hsb d0 hk0
      cases ex
      all_goals
        go_enter Tryz.func107, Tryz.ntmps107
        go_wp2_with fail
        go_ret
        exact ⟨ret_bool HB.out.symm, hB⟩
    · have HB : Hid (shapeB (.mk kd da ex (.slice a ks.length cap) ks : Lt) = false) := hidd (by rw [hsb, hk, if_neg n1, if_pos rfl, decide_eq_false d0, Bool.false_and])
      clear hk hsb d0 hk0
      go_enter Tryz.func107, Tryz.ntmps107
      go_wp2_with fail
      go_ret
      exact ⟨ret_bool HB.out.symm, hB⟩
  all_goals
    have hif : (if kd = kFile then decide (ks.length = 0) else if kd = kDir then decide (da.size = 0) && !ex else !ex && decide (ks.length = 0)) = (!ex && decide (ks.length = 0)) := by
      first
        | (rw [hk, if_neg n2, if_neg n3])
        | (rw [if_neg hk.1, if_neg hk.2.1])
    rw [hif] at hsb
    clear hif hk hd0
    rcases hk0 with ⟨k0, k1⟩ | ⟨k0, k1⟩
    · have HB : Hid (shapeB (.mk kd da ex (.slice a ks.length cap) ks : Lt) = !ex) := hidd (by rw [hsb, decide_eq_true k0, Bool.and_true])
      clear hsb k0
      cases ex
      all_goals
        go_enter Tryz.func107, Tryz.ntmps107
        go_wp2_with fail
        go_ret
        exact ⟨ret_bool HB.out.symm, hB⟩
    · have HB : Hid (shapeB (.mk kd da ex (.slice a ks.length cap) ks : Lt) = false) := hidd (by rw [hsb, decide_eq_false k0, Bool.and_false])
      clear hsb k0
      cases ex
      all_goals
        go_enter Tryz.func107, Tryz.ntmps107
        go_wp2_with fail
        go_ret
        exact ⟨ret_bool HB.out.symm, hB⟩
end Go.Proofs.YtbadnmfmncjdjaaGreatDoor
