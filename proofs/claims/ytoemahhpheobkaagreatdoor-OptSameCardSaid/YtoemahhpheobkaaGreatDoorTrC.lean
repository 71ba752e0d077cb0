/- The contract of tree.own. Condition: the node is there, the variables read as listed. · The contract of tree.own. Condition: the node is there, the variables read as listed. · The contract of tree.Check. Condition: the tree is there, the variables read as listed. -/
import Derived.Test.YtoemahhpheobkaaGreatDoorTrM
import Derived.Test.YtoemahhpheobkaaGreatDoorCoded
import Derived.Test.YtoemahhpheobkaaGreatDoorTrO
namespace Go.Proofs.YtoemahhpheobkaaGreatDoor
open Go.RowKit Go.Shelf

/-- An error by its number. -/
def evc (E : Nat → Addr) (c : Nat) : Value := if c = 0 then .nilIface else erv E (codeGs.getD (c - 1) 0)
theorem evc_zero (E : Nat → Addr) : evc E 0 = .nilIface := rfl
/-- The sentinels that trees and paths reach. -/
def trGs : List Nat := [8, 4, 2, 7, 5, 1, 0, 6, 9]
theorem Env.tr {B : Nat} {w : World} {E : Nat → Addr} (h : Env codeGs B w E) : Env trGs B w E := h.sub (by decide)

theorem rising_snoc : ∀ (l : List ByteArray) (y x : ByteArray), rising (l ++ [y] ++ [x]) = (rising (l ++ [y]) && !leB x y)
  | [], y, x => by simp [rising]
  | [a], y, x => by simp [rising]
  | a :: b :: l, y, x => by
    have := rising_snoc (b :: l) y x
    simp only [List.cons_append, rising] at this ⊢
    rw [this, Bool.and_assoc]
theorem rising_take {l : List ByteArray} {k : Nat} (h1 : 1 ≤ k) (h : k < l.length) : rising (l.take (k + 1)) = (rising (l.take k) && !leB l[k] (l[k - 1]'(by omega))) := by
  have e := List.take_succ_eq_append_getElem (l := l) (i := k - 1) (by omega)
  rw [show k - 1 + 1 = k by omega] at e
  rw [List.take_succ_eq_append_getElem h, e]
  exact rising_snoc _ _ _
theorem rising_front : ∀ (l r : List ByteArray), rising (l ++ r) = true → rising l = true
  | [], _, _ => rfl
  | [a], _, _ => rfl
  | a :: b :: l, r, h => by
    simp only [List.cons_append, rising, Bool.and_eq_true] at h ⊢
    exact ⟨h.1, rising_front (b :: l) r (by simpa using h.2)⟩
theorem rising_le_one {l : List ByteArray} (h : l.length ≤ 1) : rising l = true := by
  match l, h with
  | [], _ => rfl
  | [a], _ => rfl

def kvl (x : ByteArray × Lt) : Value := .agg #[.string x.1, .string x.2.kind, .string x.2.data, .bool x.2.exec, x.2.v]
theorem own_cl (x : ByteArray × Lt) (w : World) (hs : x.1.size ≤ 140737488351232) :
    Calls Tryz.prog 110 #[kvl x] w fun e w' => e = .returned (.bool (!isName x.1)) ∧ Below w.heap.size w w' := by
  unfold kvl
  have hb1 : Below w.heap.size w (w.alloc (.cells #[.string x.1, .string x.2.kind, .string x.2.data, .bool x.2.exec, x.2.v] 85)) := (Below.refl _ _).alloc (Nat.le_refl _) _
  have HC := hidd (name_any x.1 (w.alloc (.cells #[.string x.1, .string x.2.kind, .string x.2.data, .bool x.2.exec, x.2.v] 85)) (by omega))
  cases hn : isName x.1
  all_goals
    rw [hn] at HC
    clear hn
    go_enter Tryz.func110, Tryz.ntmps110
    go_wp2_with fail
    refine HC.out.mono ?_
    rintro e w' ⟨rfl, hb⟩
    go_wp2_with fail
    go_ret
    exact ⟨rfl, hb1.trans (hb.mono hb1.size)⟩

def IdxK (q : Bool) (w : World) (e : Ending) (w' : World) : Prop := (∃ k : Int, e = .returned (.int .i64 k) ∧ (0 ≤ k ↔ q = true)) ∧ Below w.heap.size w w'
def badKd (x : ByteArray × Lt) : Bool := !isName x.1

set_option maxRecDepth 100000 in
set_option maxHeartbeats 2000000 in
theorem kid_idx (t : Lt) (w : World) (ht : t.Ok w) :
    Calls Tryz.prog 143 #[t.v, .func (.func 110) #[] #[]] w (IdxK (t.kids.any badKd) w) := by
  obtain ⟨a, cap, hv⟩ := ht.shape
  have hm := ht.le
  obtain ⟨kd, da, ex, v, ks⟩ := t
  simp only [Tr.v, Tr.kids] at *
  subst hv
  go_enter Tryz.func143, Tryz.ntmps143
  go_wp2_with fail
  go_loopw [8] (fun i wr => ∃ k : Nat, k ≤ ks.length ∧ i = .int .i64 (k : Int) ∧ (ks.take k).any badKd = false ∧ Below w.heap.size w wr) (fun i _ => ks.length - (intOf i).toNat)
  case atStart => exact ⟨0, Nat.zero_le _, rfl, by simp, Below.refl _ _⟩
  case round =>
    obtain ⟨k, hk, rfl, hnot, hbel⟩ := hrel
    by_cases hlt : k < ks.length
    · have hA := ht.ob hbel
      have hnm := hA.names _ (List.getElem_mem hlt)
      obtain ⟨b1, o1, rfl, hb1, a0, a1, a2, a3, a4⟩ := hA.at5 rfl hlt
      simp only [Tr.kids] at a0 a1 a2 a3 a4 hnm
      have p1 : (0 : Int) ≤ (k : Int) := by omega
      have p2 : (k : Int) < (ks.length : Int) := by omega
      have hs : (ks.take (k + 1)).any badKd = badKd ks[k] := by
        rw [List.take_succ_eq_append_getElem hlt, List.any_append, hnot]; simp
      have hin : badKd ks[k] = true → ks.any badKd = true := fun h => by rw [List.any_eq_true]; exact ⟨ks[k], List.getElem_mem _, h⟩
      generalize ks[k] = x at *
      have HC := hidd (own_cl x wr hnm)
      change Hid (Calls _ _ #[.agg #[.string x.1, .string x.2.kind, .string x.2.data, .bool x.2.exec, x.2.v]] _ _) at HC
      cases hx : badKd x
      · have hx' : (!isName x.1) = false := hx
        rw [hx'] at HC
        rw [hx] at hs
        have HS := hidd hs
        clear hs hin hx hx' hnot hA ht
        go_wp2_with fail
        refine HC.out.mono ?_
        rintro e w5 ⟨rfl, hb5⟩
        have hB5 := hbel.trans (hb5.mono hbel.size)
        clear a0 a1 a2 a3 a4 hb5
        go_wp2_with fail
        go_roundw
        case rel => exact ⟨k + 1, by omega, by go_num, HS.out, hB5⟩
        case measure => simp [intOf]; omega
      · have hx' : (!isName x.1) = true := hx
        rw [hx'] at HC
        have HI := hidd (hin hx)
        clear hs hin hx hx' hnot hA ht
        go_wp2_with fail
        refine HC.out.mono ?_
        rintro e w5 ⟨rfl, hb5⟩
        have hB5 := hbel.trans (hb5.mono hbel.size)
        clear a0 a1 a2 a3 a4 hb5
        go_wp2_with fail
        go_ret
        exact ⟨⟨_, rfl, by simp [HI.out]⟩, hB5⟩
    · rw [List.take_of_length_le (by omega)] at hnot
      have HI := hidd hnot
      clear hnot ht
      go_wp2_with fail
      go_ret
      exact ⟨⟨-1, rfl, by simp [HI.out]⟩, hbel⟩

theorem kid_any (t : Lt) (w : World) (ht : t.Ok w) (q : Bool) (hq : t.kids.any badKd = q) :
    Calls Tryz.prog 109 #[t.v, .func (.func 110) #[] #[]] w fun e w' => e = .returned (.bool q) ∧ Below w.heap.size w w' := by
  have HC := hidd (kid_idx t w ht)
  rw [hq] at HC
  clear hq ht
  generalize t.v = v at *
  cases q
  · go_enter Tryz.func109, Tryz.ntmps109
    go_wp2_with fail
    refine HC.out.mono ?_
    rintro e w' ⟨⟨k, rfl, hk⟩, hb⟩
    have hk0 : ¬ 0 ≤ k := fun h0 => by have := hk.1 h0; cases this
    clear hk
    go_wp2_with fail
    go_ret
    exact ⟨ret_bool (by simp; omega), hb⟩
  · go_enter Tryz.func109, Tryz.ntmps109
    go_wp2_with fail
    refine HC.out.mono ?_
    rintro e w' ⟨⟨k, rfl, hk⟩, hb⟩
    have hk0 : 0 ≤ k := hk.2 rfl
    clear hk
    go_wp2_with fail
    go_ret
    exact ⟨ret_bool (by simp), hb⟩

theorem kindTests (k : ByteArray) : (k = kFile ∧ (k.toList == [102, 105, 108, 101]) = true ∧ (k.toList == [100, 105, 114]) = false ∧ (k.toList == [108, 105, 110, 107]) = false) ∨
    (k = kDir ∧ (k.toList == [102, 105, 108, 101]) = false ∧ (k.toList == [100, 105, 114]) = true ∧ (k.toList == [108, 105, 110, 107]) = false) ∨
    (k = kLink ∧ (k.toList == [102, 105, 108, 101]) = false ∧ (k.toList == [100, 105, 114]) = false ∧ (k.toList == [108, 105, 110, 107]) = true) ∨
    ((k ≠ kFile ∧ k ≠ kDir ∧ k ≠ kLink) ∧ (k.toList == [102, 105, 108, 101]) = false ∧ (k.toList == [100, 105, 114]) = false ∧ (k.toList == [108, 105, 110, 107]) = false) := by
  have e1 : kFile.toList = [102, 105, 108, 101] := by rw [Lib.toList_data]; rfl
  have e2 : kDir.toList = [100, 105, 114] := by rw [Lib.toList_data]; rfl
  have e3 : kLink.toList = [108, 105, 110, 107] := by rw [Lib.toList_data]; rfl
  by_cases h1 : k = kFile
  · subst h1; rw [e1]; exact .inl ⟨rfl, by decide, by decide, by decide⟩
  by_cases h2 : k = kDir
  · subst h2; rw [e2]; exact .inr (.inl ⟨rfl, by decide, by decide, by decide⟩)
  by_cases h3 : k = kLink
  · subst h3; rw [e3]; exact .inr (.inr (.inl ⟨rfl, by decide, by decide, by decide⟩))
  refine .inr (.inr (.inr ⟨⟨h1, h2, h3⟩, ?_, ?_, ?_⟩))
  · rw [← e1]; exact beq_str h1
  · rw [← e2]; exact beq_str h2
  · rw [← e3]; exact beq_str h3

set_option maxRecDepth 100000 in
set_option maxHeartbeats 2000000 in
theorem shape_any (t : Lt) (w : World) (ht : t.Ok w) : Calls Tryz.prog 107 #[nval t] w fun e w' => e = .returned (.bool (shapeB t)) ∧ Below w.heap.size w w' := by
  obtain ⟨a, cap, hv⟩ := ht.shape
  obtain ⟨kd, da, ex, v, ks⟩ := t
  have hsb : shapeB (.mk kd da ex v ks : Lt) = if kd = kFile then decide (ks.length = 0) else if kd = kDir then decide (da.size = 0) && !ex else !ex && decide (ks.length = 0) := rfl
  simp only [Tr.v, Tr.kids] at *
  subst hv
  unfold nval
  simp only [Tr.kind, Tr.data, Tr.exec, Tr.v]
  have n1 : ¬ kDir = kFile := by decide
  have n2 : ¬ kLink = kFile := by decide
  have n3 : ¬ kLink = kDir := by decide
  have hB : Below w.heap.size w (w.alloc (.cells #[.string kd, .string da, .bool ex, .slice a ks.length cap] 32)) := (Below.refl _ _).alloc (Nat.le_refl _) _
  clear ht
  have hk0 : (ks.length = 0 ∧ ((ks.length : Int) == 0) = true) ∨ (ks.length ≠ 0 ∧ ((ks.length : Int) == 0) = false) := by
    by_cases h : ks.length = 0
    · exact .inl ⟨h, by simp [h]⟩
    · exact .inr ⟨h, by simp; exact fun e => h (by rw [e]; rfl)⟩
  have hd0 : (da.size = 0 ∧ da.toList.isEmpty = true ∧ da.toList = []) ∨ (da.size ≠ 0 ∧ da.toList.isEmpty = false ∧ (da.toList == []) = false) := by
    by_cases h : da.size = 0
    · exact .inl ⟨h, isEmpty_of h, emp_list h⟩
    · exact .inr ⟨h, isEmpty_no h, emp_no h⟩
  rcases kindTests kd with ⟨hk, q1, q2, q3⟩ | ⟨hk, q1, q2, q3⟩ | ⟨hk, q1, q2, q3⟩ | ⟨hk, q1, q2, q3⟩
  · rcases hk0 with ⟨k0, k1⟩ | ⟨k0, k1⟩
    · have HB : Hid (shapeB (.mk kd da ex (.slice a ks.length cap) ks : Lt) = true) := hidd (by rw [hsb, if_pos hk, decide_eq_true k0])
      clear hk hsb k0 hd0
      go_enter Tryz.func107, Tryz.ntmps107
      go_wp2_with fail
      go_ret
      exact ⟨ret_bool HB.out.symm, hB⟩
    · have HB : Hid (shapeB (.mk kd da ex (.slice a ks.length cap) ks : Lt) = false) := hidd (by rw [hsb, if_pos hk, decide_eq_false k0])
      clear hk hsb k0 hd0
      go_enter Tryz.func107, Tryz.ntmps107
      go_wp2_with fail
      go_ret
      exact ⟨ret_bool HB.out.symm, hB⟩
  · rcases hd0 with ⟨d0, d1, d2⟩ | ⟨d0, d1, d2⟩
    · have HB : Hid (shapeB (.mk kd da ex (.slice a ks.length cap) ks : Lt) = !ex) := hidd (by rw [hsb, hk, if_neg n1, if_pos rfl, decide_eq_true d0, Bool.true_and])
      clear hk hsb d0 hk0
      cases ex
      all_goals
        go_enter Tryz.func107, Tryz.ntmps107
        go_wp2_with fail
        go_ret
        exact ⟨ret_bool HB.out.symm, hB⟩
    · have HB : Hid (shapeB (.mk kd da ex (.slice a ks.length cap) ks : Lt) = false) := hidd (by rw [hsb, hk, if_neg n1, if_pos rfl, decide_eq_false d0, Bool.false_and])
      clear hk hsb d0 hk0
      go_enter Tryz.func107, Tryz.ntmps107
      go_wp2_with fail
      go_ret
      exact ⟨ret_bool HB.out.symm, hB⟩
  all_goals
    have hif : (if kd = kFile then decide (ks.length = 0) else if kd = kDir then decide (da.size = 0) && !ex else !ex && decide (ks.length = 0)) = (!ex && decide (ks.length = 0)) := by
      first
        | (rw [hk, if_neg n2, if_neg n3])
        | (rw [if_neg hk.1, if_neg hk.2.1])
    rw [hif] at hsb
    clear hif hk hd0
    rcases hk0 with ⟨k0, k1⟩ | ⟨k0, k1⟩
    · have HB : Hid (shapeB (.mk kd da ex (.slice a ks.length cap) ks : Lt) = !ex) := hidd (by rw [hsb, decide_eq_true k0, Bool.and_true])
      clear hsb k0
      cases ex
      all_goals
        go_enter Tryz.func107, Tryz.ntmps107
        go_wp2_with fail
        go_ret
        exact ⟨ret_bool HB.out.symm, hB⟩
    · have HB : Hid (shapeB (.mk kd da ex (.slice a ks.length cap) ks : Lt) = false) := hidd (by rw [hsb, decide_eq_false k0, Bool.and_false])
      clear hsb k0
      cases ex
      all_goals
        go_enter Tryz.func107, Tryz.ntmps107
        go_wp2_with fail
        go_ret
        exact ⟨ret_bool HB.out.symm, hB⟩
end Go.Proofs.YtoemahhpheobkaaGreatDoor

namespace Go.Proofs.YtoemahhpheobkaaGreatDoor
open Go.RowKit Go.Shelf

/-- The end of tree.own: names, and their order. -/
def OwnQ (E : Nat → Addr) (c : Nat) (w : World) (e : Ending) (w' : World) : Prop := e = .returned (evc E c) ∧ Below w.heap.size w w'

theorem any_bad (ks : List (ByteArray × Lt)) : ks.any badKd = !((ks.map (·.1)).all isName) := by
  induction ks with
  | nil => rfl
  | cons x r ih => simp only [List.any_cons, List.map_cons, List.all_cons, ih, badKd, Bool.not_and]

set_option maxRecDepth 100000 in
set_option maxHeartbeats 40000000 in
theorem own_tree (E : Nat → Addr) (B : Nat) (t : Lt) (w : World) (ht : t.Ok w) (hE : Env trGs B w E) : Calls Tryz.prog 88 #[nval t] w (OwnQ E (ownE t) w) := by
  obtain ⟨a, cap, hv⟩ := ht.shape
  have hle := ht.le
  obtain ⟨kd, da, ex, v, ks⟩ := t
  simp only [Tr.v, Tr.kids] at hv hle
  subst hv
  have hB0 : Below w.heap.size w (w.alloc (.cells #[.string kd, .string da, .bool ex, .slice a ks.length cap] 32)) := (Below.refl _ _).alloc (Nat.le_refl _) _
  have hE0 := hE.ob hB0
  have ht0 := ht.ob hB0
  have hbx := Blk.new w [.string kd, .string da, .bool ex, .slice a ks.length cap] 32
  have HS := hidd (shape_any _ _ ht0)
  have hcK := hE0.cell 7 (by decide)
  have hoe : ownE (.mk kd da ex (.slice a ks.length cap) ks : Lt) = if ¬ (kd = kFile ∨ kd = kDir ∨ kd = kLink) then 4 else if shapeB (.mk kd da ex (.slice a ks.length cap) ks : Lt) = false then 3
      else if 2000 < da.size ∨ (kd = kLink ∧ (da.size = 0 ∨ 40 < da.size)) then 2 else if kd = kLink ∧ linkOk da = false then 1
      else if (ks.map (·.1)).all isName = false then 5 else if rising (ks.map (·.1)) = false then 10 else 0 := rfl
  obtain ⟨c, hc⟩ : ∃ c, ownE (.mk kd da ex (.slice a ks.length cap) ks : Lt) = c := ⟨_, rfl⟩
  rw [hc] at hoe ⊢
  have n1 : ¬ kDir = kLink := by decide
  have n2 : ¬ kFile = kLink := by decide
  unfold nval at HS ⊢
  simp only [Tr.kind, Tr.data, Tr.exec, Tr.v] at HS ⊢
  have hb0 : kd = kFile ∨ kd = kDir ∨ kd = kLink → ¬ ¬ (kd = kFile ∨ kd = kDir ∨ kd = kLink) := fun h => not_not_intro h
  have hdd : (da.size = 0 ∧ da.toList.isEmpty = true ∧ da.toList = []) ∨ (da.size ≠ 0 ∧ da.toList.isEmpty = false ∧ (da.toList == []) = false) := by
    by_cases h : da.size = 0
    · exact .inl ⟨h, isEmpty_of h, emp_list h⟩
    · exact .inr ⟨h, isEmpty_no h, emp_no h⟩
  unfold OwnQ
  rcases kindTests kd with ⟨hk, q1, q2, q3⟩ | ⟨hk, q1, q2, q3⟩ | ⟨hk, q1, q2, q3⟩ | ⟨hk, q1, q2, q3⟩
  · have hh := hb0 (.inl hk)
    rw [if_neg hh] at hoe
    clear hh
    cases hsh : shapeB (.mk kd da ex (.slice a ks.length cap) ks : Lt)
    · rw [if_pos hsh] at hoe
      subst hoe
      rw [hsh] at HS
      clear hsh hk
      go_enter Tryz.func88, Tryz.ntmps88
      go_wp2_with fail
      refine HS.out.mono ?_
      rintro e w1 ⟨rfl, hb1⟩
      have hc1 := (hE0.ob hb1).cell 2 (by decide)
      unfold erv at hc1
      go_wp2_with fail
      go_ret
      exact ⟨rfl, hB0.trans (hb1.mono hB0.size)⟩
    · rw [if_neg (by rw [hsh]; decide)] at hoe
      rw [hsh] at HS
      clear hsh
      by_cases hbig : 2000 < da.size
      · have d1 : decide ((2000 : Int) < (da.size : Int)) = true := decide_eq_true (by omega)
        rw [if_pos (.inl hbig)] at hoe
        subst hoe
        clear hk
        go_enter Tryz.func88, Tryz.ntmps88
        go_wp2_with fail
        refine HS.out.mono ?_
        rintro e w1 ⟨rfl, hb1⟩
        have hB1 := hB0.trans (hb1.mono hB0.size)
        have hE1 := hE0.ob hb1
        have hbx1 := hbx.below hb1 hbx.lt
        have y0 := hbx1.cell (i := 0) rfl
        have y1 := hbx1.cell (i := 1) rfl
        have hc1 := hE1.cell 4 (by decide)
        unfold erv at hc1
        clear hb1 hE0 ht0 hbx hB0
        go_wp2_with fail
        go_ret
        exact ⟨rfl, hB1⟩
      have d1 : decide ((2000 : Int) < (da.size : Int)) = false := decide_eq_false (by omega)
      rw [if_neg (by rintro (h | ⟨h, -⟩); exact hbig h; exact n2 (hk ▸ h)), if_neg (by rintro ⟨h, -⟩; exact n2 (hk ▸ h))] at hoe
      clear hk
      cases hnm : (ks.map (·.1)).all isName
      · rw [if_pos hnm] at hoe
        subst hoe
        have HK := hidd (fun W (hw : (Tr.mk kd da ex (.slice a ks.length cap) ks : Lt).Ok W) => kid_any _ W hw true (by simp only [Tr.kids]; rw [any_bad, hnm]; rfl))
        simp only [Tr.v] at HK
        clear hnm
        go_enter Tryz.func88, Tryz.ntmps88
        go_wp2_with fail
        refine HS.out.mono ?_
        rintro e w1 ⟨rfl, hb1⟩
        have hB1 := hB0.trans (hb1.mono hB0.size)
        have hE1 := hE0.ob hb1
        have ht1 := ht0.ob hb1
        have hbx1 := hbx.below hb1 hbx.lt
        have y0 := hbx1.cell (i := 0) rfl
        have y1 := hbx1.cell (i := 1) rfl
        have y3 := hbx1.cell (i := 3) rfl
        clear hb1 hE0 ht0 hbx hB0
        go_wp2_with fail
        refine (HK.out _ ht1).mono ?_
        rintro e w2 ⟨rfl, hb2⟩
        have hc2 := (hE1.ob hb2).cell 5 (by decide)
        unfold erv at hc2
        go_wp2_with fail
        go_ret
        exact ⟨rfl, hB1.trans (hb2.mono hB1.size)⟩
      · rw [if_neg (by rw [hnm]; decide)] at hoe
        have HK := hidd (fun W (hw : (Tr.mk kd da ex (.slice a ks.length cap) ks : Lt).Ok W) => kid_any _ W hw false (by simp only [Tr.kids]; rw [any_bad, hnm]; rfl))
        simp only [Tr.v] at HK
        have HOE := hidd hoe
        clear hnm hoe
        go_enter Tryz.func88, Tryz.ntmps88
        go_wp2_with fail
        refine HS.out.mono ?_
        rintro e w1 ⟨rfl, hb1⟩
        have hB1 := hB0.trans (hb1.mono hB0.size)
        have hE1 := hE0.ob hb1
        have ht1 := ht0.ob hb1
        have hbx1 := hbx.below hb1 hbx.lt
        have y0 := hbx1.cell (i := 0) rfl
        have y1 := hbx1.cell (i := 1) rfl
        have y3 := hbx1.cell (i := 3) rfl
        clear hb1 hE0 ht0 hbx hB0
        go_wp2_with fail
        refine (HK.out _ ht1).mono ?_
        rintro e w2 ⟨rfl, hb2⟩
        have hB2 := hB1.trans (hb2.mono hB1.size)
        have hE2 := hE1.ob hb2
        have ht2 := ht1.ob hb2
        have hx2 := hbx1.below hb2 hbx1.lt
        have hx3 := hx2.cell (i := 3) rfl
        have hxl := hx2.lt
        clear hb2 hE1 ht1 hbx1 hB1 hx2
        go_wp2_with fail
        go_loopw [3] (fun t wr => ∃ k : Nat, 1 ≤ k ∧ (k ≤ ks.length ∨ k = 1) ∧ t = .int .i64 (k : Int) ∧ rising ((ks.map (·.1)).take k) = true ∧ Below w2.heap.size w2 wr) (fun t _ => ks.length + 1 - (intOf t).toNat)
        case atStart => exact ⟨1, Nat.le_refl _, .inr rfl, rfl, rising_le_one (by rw [List.length_take]; omega), Below.refl _ _⟩
        case round =>
          obtain ⟨k, hk1, hk2, rfl, hris, hbel⟩ := hrel
          have hxr := (hbel.cell (p := ⟨w.heap.size, 3, none⟩) hxl).trans hx3
          have hEr := hE2.ob hbel
          have hcr := hEr.cell 9 (by decide)
          unfold erv at hcr
          by_cases hlt : k < ks.length
          · have hA := ht2.ob hbel
            have hrt := rising_take (l := ks.map (·.1)) (k := k) hk1 (by simpa using hlt)
            have hfr := rising_front ((ks.map (·.1)).take (k + 1)) ((ks.map (·.1)).drop (k + 1))
            rw [List.take_append_drop] at hfr
            obtain ⟨b1, o1, rfl, hb1, a0, -⟩ := hA.at5 rfl hlt
            obtain ⟨b2, o2, hab, hb2, c0, -⟩ := hA.at5 rfl (i := k - 1) (by simp only [Tr.kids]; omega)
            simp only [Option.some.injEq, Addr.mk.injEq] at hab
            obtain ⟨rfl, rfl, -⟩ := hab
            simp only [Tr.kids] at a0 c0
            rw [hris, Bool.true_and, List.getElem_map, List.getElem_map] at hrt
            have p0 : (1 : Int) ≤ (k : Int) := by omega
            have p1 : (0 : Int) ≤ (k : Int) := by omega
            have p2 : (k : Int) < (ks.length : Int) := by omega
            have p3 : (0 : Int) ≤ (k : Int) - 1 := by omega
            have p4 : (k : Int) - 1 < (ks.length : Int) := by omega
            have hw1 : IntKind.i64.wrap ((k : Int) - 1) = (k : Int) - 1 := i64_in _ (by omega)
            have hw2 : ((k : Int) - 1).toNat = k - 1 := by omega
            generalize ks[k] = x at *
            generalize ks[k - 1]'(by omega) = y at *
            cases hl : leB x.1 y.1
            · have hl' : (Op.bytesLess x.1.toList y.1.toList || x.1.toList == y.1.toList) = false := hl
              rw [hl] at hrt
              have HRT := hidd hrt
              clear hl hrt hfr hA hris hk2
              go_wp2_with fail
              go_quiet (fail)
              go_wp2_with fail
              clear hw1 hw2
              go_roundw
              case rel => exact ⟨k + 1, by omega, .inl (by omega), by go_num, HRT.out, by first | exact hbel | exact hbel.drew | exact hbel.trans (Below.drewN _ _ _)⟩
              case measure => simp [intOf]; omega
            · have hl' : (Op.bytesLess x.1.toList y.1.toList || x.1.toList == y.1.toList) = true := hl
              rw [hl] at hrt
              have HC : Hid (c = 10) := hidd (by
                rw [HOE.out, if_pos]
                cases hr : rising (ks.map (·.1)) with
                | false => rfl
                | true => have := hfr hr; rw [hrt] at this; cases this)
              clear hl hrt hfr hA hris hk2
              go_wp2_with fail
              go_quiet (fail)
              go_wp2_with fail
              go_ret
              refine ⟨by rw [HC.out]; rfl, ?_⟩
              first | exact hB2.trans (hbel.mono hB2.size) | exact hB2.trans ((hbel.drew).mono hB2.size) | exact hB2.trans ((hbel.trans (Below.drewN _ _ _)).mono hB2.size)
          · have HC : Hid (c = 0) := hidd (by
              rw [HOE.out, if_neg]
              have : rising (ks.map (·.1)) = true := by
                by_cases h : ks.length ≤ 1
                · exact rising_le_one (by simpa using h)
                · rw [List.take_of_length_le (by simp; omega)] at hris; exact hris
              rw [this]; decide)
            clear hris hk2
            go_wp2_with fail
            go_ret
            exact ⟨by rw [HC.out]; rfl, hB2.trans (hbel.mono hB2.size)⟩
  · have hh := hb0 (.inr (.inl hk))
    rw [if_neg hh] at hoe
    clear hh
    cases hsh : shapeB (.mk kd da ex (.slice a ks.length cap) ks : Lt)
    · rw [if_pos hsh] at hoe
      subst hoe
      rw [hsh] at HS
      clear hsh hk
      go_enter Tryz.func88, Tryz.ntmps88
      go_wp2_with fail
      refine HS.out.mono ?_
      rintro e w1 ⟨rfl, hb1⟩
      have hc1 := (hE0.ob hb1).cell 2 (by decide)
      unfold erv at hc1
      go_wp2_with fail
      go_ret
      exact ⟨rfl, hB0.trans (hb1.mono hB0.size)⟩
    · rw [if_neg (by rw [hsh]; decide)] at hoe
      rw [hsh] at HS
      clear hsh
      by_cases hbig : 2000 < da.size
      · have d1 : decide ((2000 : Int) < (da.size : Int)) = true := decide_eq_true (by omega)
        rw [if_pos (.inl hbig)] at hoe
        subst hoe
        clear hk
        go_enter Tryz.func88, Tryz.ntmps88
        go_wp2_with fail
        refine HS.out.mono ?_
        rintro e w1 ⟨rfl, hb1⟩
        have hB1 := hB0.trans (hb1.mono hB0.size)
        have hE1 := hE0.ob hb1
        have hbx1 := hbx.below hb1 hbx.lt
        have y0 := hbx1.cell (i := 0) rfl
        have y1 := hbx1.cell (i := 1) rfl
        have hc1 := hE1.cell 4 (by decide)
        unfold erv at hc1
        clear hb1 hE0 ht0 hbx hB0
        go_wp2_with fail
        go_ret
        exact ⟨rfl, hB1⟩
      have d1 : decide ((2000 : Int) < (da.size : Int)) = false := decide_eq_false (by omega)
      rw [if_neg (by rintro (h | ⟨h, -⟩); exact hbig h; exact n1 (hk ▸ h)), if_neg (by rintro ⟨h, -⟩; exact n1 (hk ▸ h))] at hoe
      clear hk
      cases hnm : (ks.map (·.1)).all isName
      · rw [if_pos hnm] at hoe
        subst hoe
        have HK := hidd (fun W (hw : (Tr.mk kd da ex (.slice a ks.length cap) ks : Lt).Ok W) => kid_any _ W hw true (by simp only [Tr.kids]; rw [any_bad, hnm]; rfl))
        simp only [Tr.v] at HK
        clear hnm
        go_enter Tryz.func88, Tryz.ntmps88
        go_wp2_with fail
        refine HS.out.mono ?_
        rintro e w1 ⟨rfl, hb1⟩
        have hB1 := hB0.trans (hb1.mono hB0.size)
        have hE1 := hE0.ob hb1
        have ht1 := ht0.ob hb1
        have hbx1 := hbx.below hb1 hbx.lt
        have y0 := hbx1.cell (i := 0) rfl
        have y1 := hbx1.cell (i := 1) rfl
        have y3 := hbx1.cell (i := 3) rfl
        clear hb1 hE0 ht0 hbx hB0
        go_wp2_with fail
        refine (HK.out _ ht1).mono ?_
        rintro e w2 ⟨rfl, hb2⟩
        have hc2 := (hE1.ob hb2).cell 5 (by decide)
        unfold erv at hc2
        go_wp2_with fail
        go_ret
        exact ⟨rfl, hB1.trans (hb2.mono hB1.size)⟩
      · rw [if_neg (by rw [hnm]; decide)] at hoe
        have HK := hidd (fun W (hw : (Tr.mk kd da ex (.slice a ks.length cap) ks : Lt).Ok W) => kid_any _ W hw false (by simp only [Tr.kids]; rw [any_bad, hnm]; rfl))
        simp only [Tr.v] at HK
        have HOE := hidd hoe
        clear hnm hoe
        go_enter Tryz.func88, Tryz.ntmps88
        go_wp2_with fail
        refine HS.out.mono ?_
        rintro e w1 ⟨rfl, hb1⟩
        have hB1 := hB0.trans (hb1.mono hB0.size)
        have hE1 := hE0.ob hb1
        have ht1 := ht0.ob hb1
        have hbx1 := hbx.below hb1 hbx.lt
        have y0 := hbx1.cell (i := 0) rfl
        have y1 := hbx1.cell (i := 1) rfl
        have y3 := hbx1.cell (i := 3) rfl
        clear hb1 hE0 ht0 hbx hB0
        go_wp2_with fail
        refine (HK.out _ ht1).mono ?_
        rintro e w2 ⟨rfl, hb2⟩
        have hB2 := hB1.trans (hb2.mono hB1.size)
        have hE2 := hE1.ob hb2
        have ht2 := ht1.ob hb2
        have hx2 := hbx1.below hb2 hbx1.lt
        have hx3 := hx2.cell (i := 3) rfl
        have hxl := hx2.lt
        clear hb2 hE1 ht1 hbx1 hB1 hx2
        go_wp2_with fail
        go_loopw [3] (fun t wr => ∃ k : Nat, 1 ≤ k ∧ (k ≤ ks.length ∨ k = 1) ∧ t = .int .i64 (k : Int) ∧ rising ((ks.map (·.1)).take k) = true ∧ Below w2.heap.size w2 wr) (fun t _ => ks.length + 1 - (intOf t).toNat)
        case atStart => exact ⟨1, Nat.le_refl _, .inr rfl, rfl, rising_le_one (by rw [List.length_take]; omega), Below.refl _ _⟩
        case round =>
          obtain ⟨k, hk1, hk2, rfl, hris, hbel⟩ := hrel
          have hxr := (hbel.cell (p := ⟨w.heap.size, 3, none⟩) hxl).trans hx3
          have hEr := hE2.ob hbel
          have hcr := hEr.cell 9 (by decide)
          unfold erv at hcr
          by_cases hlt : k < ks.length
          · have hA := ht2.ob hbel
            have hrt := rising_take (l := ks.map (·.1)) (k := k) hk1 (by simpa using hlt)
            have hfr := rising_front ((ks.map (·.1)).take (k + 1)) ((ks.map (·.1)).drop (k + 1))
            rw [List.take_append_drop] at hfr
            obtain ⟨b1, o1, rfl, hb1, a0, -⟩ := hA.at5 rfl hlt
            obtain ⟨b2, o2, hab, hb2, c0, -⟩ := hA.at5 rfl (i := k - 1) (by simp only [Tr.kids]; omega)
            simp only [Option.some.injEq, Addr.mk.injEq] at hab
            obtain ⟨rfl, rfl, -⟩ := hab
            simp only [Tr.kids] at a0 c0
            rw [hris, Bool.true_and, List.getElem_map, List.getElem_map] at hrt
            have p0 : (1 : Int) ≤ (k : Int) := by omega
            have p1 : (0 : Int) ≤ (k : Int) := by omega
            have p2 : (k : Int) < (ks.length : Int) := by omega
            have p3 : (0 : Int) ≤ (k : Int) - 1 := by omega
            have p4 : (k : Int) - 1 < (ks.length : Int) := by omega
            have hw1 : IntKind.i64.wrap ((k : Int) - 1) = (k : Int) - 1 := i64_in _ (by omega)
            have hw2 : ((k : Int) - 1).toNat = k - 1 := by omega
            generalize ks[k] = x at *
            generalize ks[k - 1]'(by omega) = y at *
            cases hl : leB x.1 y.1
            · have hl' : (Op.bytesLess x.1.toList y.1.toList || x.1.toList == y.1.toList) = false := hl
              rw [hl] at hrt
              have HRT := hidd hrt
              clear hl hrt hfr hA hris hk2
              go_wp2_with fail
              go_quiet (fail)
              go_wp2_with fail
              clear hw1 hw2
              go_roundw
              case rel => exact ⟨k + 1, by omega, .inl (by omega), by go_num, HRT.out, by first | exact hbel | exact hbel.drew | exact hbel.trans (Below.drewN _ _ _)⟩
              case measure => simp [intOf]; omega
            · have hl' : (Op.bytesLess x.1.toList y.1.toList || x.1.toList == y.1.toList) = true := hl
              rw [hl] at hrt
              have HC : Hid (c = 10) := hidd (by
                rw [HOE.out, if_pos]
                cases hr : rising (ks.map (·.1)) with
                | false => rfl
                | true => have := hfr hr; rw [hrt] at this; cases this)
              clear hl hrt hfr hA hris hk2
              go_wp2_with fail
              go_quiet (fail)
              go_wp2_with fail
              go_ret
              refine ⟨by rw [HC.out]; rfl, ?_⟩
              first | exact hB2.trans (hbel.mono hB2.size) | exact hB2.trans ((hbel.drew).mono hB2.size) | exact hB2.trans ((hbel.trans (Below.drewN _ _ _)).mono hB2.size)
          · have HC : Hid (c = 0) := hidd (by
              rw [HOE.out, if_neg]
              have : rising (ks.map (·.1)) = true := by
                by_cases h : ks.length ≤ 1
                · exact rising_le_one (by simpa using h)
                · rw [List.take_of_length_le (by simp; omega)] at hris; exact hris
              rw [this]; decide)
            clear hris hk2
            go_wp2_with fail
            go_ret
            exact ⟨by rw [HC.out]; rfl, hB2.trans (hbel.mono hB2.size)⟩
  · have hh := hb0 (.inr (.inr hk))
    rw [if_neg hh] at hoe
    clear hh
    cases hsh : shapeB (.mk kd da ex (.slice a ks.length cap) ks : Lt)
    · rw [if_pos hsh] at hoe
      subst hoe
      rw [hsh] at HS
      clear hsh hk
      go_enter Tryz.func88, Tryz.ntmps88
      go_wp2_with fail
      refine HS.out.mono ?_
      rintro e w1 ⟨rfl, hb1⟩
      have hc1 := (hE0.ob hb1).cell 2 (by decide)
      unfold erv at hc1
      go_wp2_with fail
      go_ret
      exact ⟨rfl, hB0.trans (hb1.mono hB0.size)⟩
    · rw [if_neg (by rw [hsh]; decide)] at hoe
      rw [hsh] at HS
      clear hsh
      by_cases hbig : 2000 < da.size
      · have d1 : decide ((2000 : Int) < (da.size : Int)) = true := decide_eq_true (by omega)
        rw [if_pos (.inl hbig)] at hoe
        subst hoe
        clear hk
        go_enter Tryz.func88, Tryz.ntmps88
        go_wp2_with fail
        refine HS.out.mono ?_
        rintro e w1 ⟨rfl, hb1⟩
        have hB1 := hB0.trans (hb1.mono hB0.size)
        have hE1 := hE0.ob hb1
        have hbx1 := hbx.below hb1 hbx.lt
        have y0 := hbx1.cell (i := 0) rfl
        have y1 := hbx1.cell (i := 1) rfl
        have hc1 := hE1.cell 4 (by decide)
        unfold erv at hc1
        clear hb1 hE0 ht0 hbx hB0
        go_wp2_with fail
        go_ret
        exact ⟨rfl, hB1⟩
      have d1 : decide ((2000 : Int) < (da.size : Int)) = false := decide_eq_false (by omega)
      rcases hdd with ⟨dz, z1, z2⟩ | ⟨dz, z1, z2⟩
      · rw [if_pos (.inr ⟨hk, .inl dz⟩)] at hoe
        subst hoe
        clear hk
        go_enter Tryz.func88, Tryz.ntmps88
        go_wp2_with fail
        refine HS.out.mono ?_
        rintro e w1 ⟨rfl, hb1⟩
        have hB1 := hB0.trans (hb1.mono hB0.size)
        have hE1 := hE0.ob hb1
        have hbx1 := hbx.below hb1 hbx.lt
        have y0 := hbx1.cell (i := 0) rfl
        have y1 := hbx1.cell (i := 1) rfl
        have hc1 := hE1.cell 4 (by decide)
        unfold erv at hc1
        clear hb1 hE0 ht0 hbx hB0
        go_wp2_with fail
        go_ret
        exact ⟨rfl, hB1⟩
      by_cases h40 : 40 < da.size
      · have d2 : decide ((40 : Int) < (da.size : Int)) = true := decide_eq_true (by omega)
        rw [if_pos (.inr ⟨hk, .inr h40⟩)] at hoe
        subst hoe
        clear hk
        go_enter Tryz.func88, Tryz.ntmps88
        go_wp2_with fail
        refine HS.out.mono ?_
        rintro e w1 ⟨rfl, hb1⟩
        have hB1 := hB0.trans (hb1.mono hB0.size)
        have hE1 := hE0.ob hb1
        have hbx1 := hbx.below hb1 hbx.lt
        have y0 := hbx1.cell (i := 0) rfl
        have y1 := hbx1.cell (i := 1) rfl
        have hc1 := hE1.cell 4 (by decide)
        unfold erv at hc1
        clear hb1 hE0 ht0 hbx hB0
        go_wp2_with fail
        go_ret
        exact ⟨rfl, hB1⟩
      have d2 : decide ((40 : Int) < (da.size : Int)) = false := decide_eq_false (by omega)
      rw [if_neg (by rintro (h | ⟨-, h | h⟩); exact hbig h; exact dz h; exact h40 h)] at hoe
      have HLK := hidd (fun W => link_any da W)
      cases hlk : linkOk da
      · rw [if_pos ⟨hk, hlk⟩] at hoe
        subst hoe
        rw [hlk] at HLK
        clear hlk hk
        go_enter Tryz.func88, Tryz.ntmps88
        go_wp2_with fail
        refine HS.out.mono ?_
        rintro e w1 ⟨rfl, hb1⟩
        have hB1 := hB0.trans (hb1.mono hB0.size)
        have hE1 := hE0.ob hb1
        have ht1 := ht0.ob hb1
        have hbx1 := hbx.below hb1 hbx.lt
        have y0 := hbx1.cell (i := 0) rfl
        have y1 := hbx1.cell (i := 1) rfl
        have y3 := hbx1.cell (i := 3) rfl
        clear hb1 hE0 ht0 hbx hB0
        go_wp2_with fail
        refine (HLK.out _).mono ?_
        rintro e w3 ⟨rfl, hb3⟩
        have hc3 := (hE1.ob hb3).cell 8 (by decide)
        unfold erv at hc3
        go_wp2_with fail
        go_ret
        exact ⟨rfl, hB1.trans (hb3.mono hB1.size)⟩
      rw [if_neg (by rintro ⟨-, h⟩; rw [hlk] at h; cases h)] at hoe
      rw [hlk] at HLK
      clear hlk hk
      cases hnm : (ks.map (·.1)).all isName
      · rw [if_pos hnm] at hoe
        subst hoe
        have HK := hidd (fun W (hw : (Tr.mk kd da ex (.slice a ks.length cap) ks : Lt).Ok W) => kid_any _ W hw true (by simp only [Tr.kids]; rw [any_bad, hnm]; rfl))
        simp only [Tr.v] at HK
        clear hnm
        go_enter Tryz.func88, Tryz.ntmps88
        go_wp2_with fail
        refine HS.out.mono ?_
        rintro e w0 ⟨rfl, hb00⟩
        have hB1 := hB0.trans (hb00.mono hB0.size)
        have hE1 := hE0.ob hb00
        have ht1 := ht0.ob hb00
        have hbx1 := hbx.below hb00 hbx.lt
        have y0 := hbx1.cell (i := 0) rfl
        have y1 := hbx1.cell (i := 1) rfl
        have y3 := hbx1.cell (i := 3) rfl
        clear hb00 hE0 ht0 hbx hB0
        go_wp2_with fail
        refine (HLK.out _).mono ?_
        rintro e w1 ⟨rfl, hb3⟩
        have hB1' := hB1.trans (hb3.mono hB1.size)
        have hE1' := hE1.ob hb3
        have ht1' := ht1.ob hb3
        have hbx1' := hbx1.below hb3 hbx1.lt
        clear hB1 hE1 ht1 hbx1 y0 y1 y3
        have hB1 := hB1'
        have hE1 := hE1'
        have ht1 := ht1'
        have hbx1 := hbx1'
        clear hB1' hE1' ht1' hbx1'
        have y3 := hbx1.cell (i := 3) rfl
        clear hb3
        go_wp2_with fail
        refine (HK.out _ ht1).mono ?_
        rintro e w2 ⟨rfl, hb2⟩
        have hc2 := (hE1.ob hb2).cell 5 (by decide)
        unfold erv at hc2
        go_wp2_with fail
        go_ret
        exact ⟨rfl, hB1.trans (hb2.mono hB1.size)⟩
      · rw [if_neg (by rw [hnm]; decide)] at hoe
        have HK := hidd (fun W (hw : (Tr.mk kd da ex (.slice a ks.length cap) ks : Lt).Ok W) => kid_any _ W hw false (by simp only [Tr.kids]; rw [any_bad, hnm]; rfl))
        simp only [Tr.v] at HK
        have HOE := hidd hoe
        clear hnm hoe
        go_enter Tryz.func88, Tryz.ntmps88
        go_wp2_with fail
        refine HS.out.mono ?_
        rintro e w0 ⟨rfl, hb00⟩
        have hB1 := hB0.trans (hb00.mono hB0.size)
        have hE1 := hE0.ob hb00
        have ht1 := ht0.ob hb00
        have hbx1 := hbx.below hb00 hbx.lt
        have y0 := hbx1.cell (i := 0) rfl
        have y1 := hbx1.cell (i := 1) rfl
        have y3 := hbx1.cell (i := 3) rfl
        clear hb00 hE0 ht0 hbx hB0
        go_wp2_with fail
        refine (HLK.out _).mono ?_
        rintro e w1 ⟨rfl, hb3⟩
        have hB1' := hB1.trans (hb3.mono hB1.size)
        have hE1' := hE1.ob hb3
        have ht1' := ht1.ob hb3
        have hbx1' := hbx1.below hb3 hbx1.lt
        clear hB1 hE1 ht1 hbx1 y0 y1 y3
        have hB1 := hB1'
        have hE1 := hE1'
        have ht1 := ht1'
        have hbx1 := hbx1'
        clear hB1' hE1' ht1' hbx1'
        have y3 := hbx1.cell (i := 3) rfl
        clear hb3
        go_wp2_with fail
        refine (HK.out _ ht1).mono ?_
        rintro e w2 ⟨rfl, hb2⟩
        have hB2 := hB1.trans (hb2.mono hB1.size)
        have hE2 := hE1.ob hb2
        have ht2 := ht1.ob hb2
        have hx2 := hbx1.below hb2 hbx1.lt
        have hx3 := hx2.cell (i := 3) rfl
        have hxl := hx2.lt
        clear hb2 hE1 ht1 hbx1 hB1 hx2
        go_wp2_with fail
        go_loopw [3] (fun t wr => ∃ k : Nat, 1 ≤ k ∧ (k ≤ ks.length ∨ k = 1) ∧ t = .int .i64 (k : Int) ∧ rising ((ks.map (·.1)).take k) = true ∧ Below w2.heap.size w2 wr) (fun t _ => ks.length + 1 - (intOf t).toNat)
        case atStart => exact ⟨1, Nat.le_refl _, .inr rfl, rfl, rising_le_one (by rw [List.length_take]; omega), Below.refl _ _⟩
        case round =>
          obtain ⟨k, hk1, hk2, rfl, hris, hbel⟩ := hrel
          have hxr := (hbel.cell (p := ⟨w.heap.size, 3, none⟩) hxl).trans hx3
          have hEr := hE2.ob hbel
          have hcr := hEr.cell 9 (by decide)
          unfold erv at hcr
          by_cases hlt : k < ks.length
          · have hA := ht2.ob hbel
            have hrt := rising_take (l := ks.map (·.1)) (k := k) hk1 (by simpa using hlt)
            have hfr := rising_front ((ks.map (·.1)).take (k + 1)) ((ks.map (·.1)).drop (k + 1))
            rw [List.take_append_drop] at hfr
            obtain ⟨b1, o1, rfl, hb1, a0, -⟩ := hA.at5 rfl hlt
            obtain ⟨b2, o2, hab, hb2, c0, -⟩ := hA.at5 rfl (i := k - 1) (by simp only [Tr.kids]; omega)
            simp only [Option.some.injEq, Addr.mk.injEq] at hab
            obtain ⟨rfl, rfl, -⟩ := hab
            simp only [Tr.kids] at a0 c0
            rw [hris, Bool.true_and, List.getElem_map, List.getElem_map] at hrt
            have p0 : (1 : Int) ≤ (k : Int) := by omega
            have p1 : (0 : Int) ≤ (k : Int) := by omega
            have p2 : (k : Int) < (ks.length : Int) := by omega
            have p3 : (0 : Int) ≤ (k : Int) - 1 := by omega
            have p4 : (k : Int) - 1 < (ks.length : Int) := by omega
            have hw1 : IntKind.i64.wrap ((k : Int) - 1) = (k : Int) - 1 := i64_in _ (by omega)
            have hw2 : ((k : Int) - 1).toNat = k - 1 := by omega
            generalize ks[k] = x at *
            generalize ks[k - 1]'(by omega) = y at *
            cases hl : leB x.1 y.1
            · have hl' : (Op.bytesLess x.1.toList y.1.toList || x.1.toList == y.1.toList) = false := hl
              rw [hl] at hrt
              have HRT := hidd hrt
              clear hl hrt hfr hA hris hk2
              go_wp2_with fail
              go_quiet (fail)
              go_wp2_with fail
              clear hw1 hw2
              go_roundw
              case rel => exact ⟨k + 1, by omega, .inl (by omega), by go_num, HRT.out, by first | exact hbel | exact hbel.drew | exact hbel.trans (Below.drewN _ _ _)⟩
              case measure => simp [intOf]; omega
            · have hl' : (Op.bytesLess x.1.toList y.1.toList || x.1.toList == y.1.toList) = true := hl
              rw [hl] at hrt
              have HC : Hid (c = 10) := hidd (by
                rw [HOE.out, if_pos]
                cases hr : rising (ks.map (·.1)) with
                | false => rfl
                | true => have := hfr hr; rw [hrt] at this; cases this)
              clear hl hrt hfr hA hris hk2
              go_wp2_with fail
              go_quiet (fail)
              go_wp2_with fail
              go_ret
              refine ⟨by rw [HC.out]; rfl, ?_⟩
              first | exact hB2.trans (hbel.mono hB2.size) | exact hB2.trans ((hbel.drew).mono hB2.size) | exact hB2.trans ((hbel.trans (Below.drewN _ _ _)).mono hB2.size)
          · have HC : Hid (c = 0) := hidd (by
              rw [HOE.out, if_neg]
              have : rising (ks.map (·.1)) = true := by
                by_cases h : ks.length ≤ 1
                · exact rising_le_one (by simpa using h)
                · rw [List.take_of_length_le (by simp; omega)] at hris; exact hris
              rw [this]; decide)
            clear hris hk2
            go_wp2_with fail
            go_ret
            exact ⟨by rw [HC.out]; rfl, hB2.trans (hbel.mono hB2.size)⟩
  · rw [if_pos (by rintro (h | h | h); exact hk.1 h; exact hk.2.1 h; exact hk.2.2 h)] at hoe
    subst hoe
    unfold erv at hcK
    clear hk
    go_enter Tryz.func88, Tryz.ntmps88
    go_wp2_with fail
    go_ret
    exact ⟨rfl, hB0⟩
end Go.Proofs.YtoemahhpheobkaaGreatDoor

namespace Go.Proofs.YtoemahhpheobkaaGreatDoor
open Go.RowKit Go.Shelf

theorem evc_ne {E : Nat → Addr} {c : Nat} (h : c ≠ 0) : evc E c = .iface 249 (.pointer (some (E (codeGs.getD (c - 1) 0)))) := by
  unfold evc erv; rw [if_neg h]
theorem scan_kids (c d : Nat) (ks : List (ByteArray × Lt)) {k : Nat} (hk : k < ks.length) (h0 : scan c (pres ⟨#[]⟩ d (ks.take k)) = 0) :
    scan c (pres ⟨#[]⟩ d (ks.take (k + 1))) = scan (c + Tr.szs (ks.take k)) (pre ⟨#[]⟩ d ks[k].2) := by
  rw [List.take_succ_eq_append_getElem hk, pres_app, scan_app, if_pos h0, pres_len]
  rw [show ks[k] = (ks[k].1, ks[k].2) from rfl, pres_one, scan_path]
theorem scan_stop {c d : Nat} {ks : List (ByteArray × Lt)} {k : Nat} (hs : scan c (pres ⟨#[]⟩ d (ks.take k)) ≠ 0) : scan c (pres ⟨#[]⟩ d ks) = scan c (pres ⟨#[]⟩ d (ks.take k)) := by
  have e := List.take_append_drop k ks
  conv => lhs; rw [← e]
  rw [pres_app, scan_app, if_neg hs]
theorem szs_succ (ks : List (ByteArray × Lt)) {k : Nat} (hk : k < ks.length) : Tr.szs (ks.take (k + 1)) = Tr.szs (ks.take k) + ks[k].2.sz := by
  rw [List.take_succ_eq_append_getElem hk, Tr.szs_app]
  rw [show ks[k] = (ks[k].1, ks[k].2) from rfl, Tr.szs, Tr.szs]; rfl
theorem scan_room {c d : Nat} {p : ByteArray} {ks : List (ByteArray × Lt)} (h : scan c (pres p d ks) = 0) (hc : c ≤ 200) : c + Tr.szs ks ≤ 200 := by
  by_cases hn : pres p d ks = []
  · have := congrArg List.length hn
    rw [pres_len] at this
    simp at this; omega
  · have := (scan_zero h).2 hn
    rw [pres_len] at this; exact this
theorem scan_head {c d : Nat} {t : Lt} (hd : d ≤ 8) (hc : c < 200) (ho : ownE t = 0) : scan c (pre ⟨#[]⟩ d t) = scan (c + 1) (pres ⟨#[]⟩ (d + 1) t.kids) := by
  rw [pre_cons, scan, if_neg (by simp only; omega), if_neg (by omega), if_neg (by simp only; omega)]

theorem scan9 {c d : Nat} {t : Lt} (hd : 8 < d) : scan c (pre ⟨#[]⟩ d t) = 9 := by
  rw [pre_cons, scan]; exact if_pos hd
theorem scan8 {c d : Nat} {t : Lt} (hd : ¬ 8 < d) (hc : 200 ≤ c) : scan c (pre ⟨#[]⟩ d t) = 8 := by
  rw [pre_cons, scan]; exact (if_neg hd).trans (if_pos hc)
theorem scanO {c d : Nat} {t : Lt} (hd : ¬ 8 < d) (hc : ¬ 200 ≤ c) (ho : ownE t ≠ 0) : scan c (pre ⟨#[]⟩ d t) = ownE t := by
  rw [pre_cons, scan]; exact (if_neg hd).trans ((if_neg hc).trans (if_pos (by simp only; omega)))

/-- What the check of a node does: c nodes were counted, s is the number of its error. -/
def ChkP (E : Nat → Addr) (p c n s : Nat) (w : World) (e : Ending) (w' : World) : Prop :=
  e = .returned (evc E s) ∧ Fr (fun b => b = p) w w' ∧ (∃ c', Blk w' p [.int .i64 ((c' : Nat) : Int)] 135 ∧ (s = 0 → c' = c + n))
/-- the check is right for trees of so many nodes. -/
def ChkH (E : Nat → Addr) (B m : Nat) : Prop := ∀ (t : Lt) (w : World) (p c d : Nat), t.sz ≤ m → t.Ok w → t.In (fun b => b < p) → B ≤ p → Env trGs B w E → Blk w p [.int .i64 ((c : Nat) : Int)] 135 → c ≤ 200 → d ≤ 9 →
  Calls Tryz.prog 59 #[.pointer (some ⟨p, 0, none⟩), nval t, .int .i64 (d : Int)] w (ChkP E p c t.sz (scan c (pre ⟨#[]⟩ d t)) w)

set_option maxRecDepth 100000 in
set_option maxHeartbeats 40000000 in
theorem chk_step (E : Nat → Addr) (B m : Nat) (ih : ChkH E B m) : ChkH E B (m + 1) := by
  intro t w p c d hm ht hin hBp hE hp hc hd
  obtain ⟨a, cap, hv⟩ := ht.shape
  have hle := ht.le
  have HKA : Hid (∀ i (h : i < t.kids.length), t.kids[i].2.sz ≤ m) := hidd (fun i h => by have := Tr.sz_lt (List.getElem_mem h); omega)
  obtain ⟨s, hs⟩ : ∃ s, scan c (pre ⟨#[]⟩ d t) = s := ⟨_, rfl⟩
  have hsz := Tr.sz_kids t
  obtain ⟨o, ho⟩ : ∃ o, ownE t = o := ⟨_, rfl⟩
  have hlt0 := hp.lt
  have hc0 := hp.cell (i := 0) rfl
  have hfz0 := hp.frozen 0
  have hp1 := (hp.set 0 (.int .i64 ((c : Int) + 1))).alloc (.cells #[.string t.kind, .string t.data, .bool t.exec, .slice a t.kids.length cap] 32)
  have hp1c := hp1.cell (i := 0) rfl
  have hfr1 : Fr (fun b => b = p) w ((w.setCell ⟨p, 0, none⟩ (.int .i64 ((c : Int) + 1))).alloc (.cells #[.string t.kind, .string t.data, .bool t.exec, .slice a t.kids.length cap] 32)) := ((Fr.refl (fun b => b = p) w).setCell (p := ⟨p, 0, none⟩) (.inl rfl) _).alloc _
  have hbx := Blk.new (w.setCell ⟨p, 0, none⟩ (.int .i64 ((c : Int) + 1))) [.string t.kind, .string t.data, .bool t.exec, .slice a t.kids.length cap] 32
  rw [show (w.setCell ⟨p, 0, none⟩ (.int .i64 ((c : Int) + 1))).heap.size = w.heap.size by simp [World.setCell]] at hbx
  have hE1 := hE.fr hfr1 (fun b hb => by omega)
  have ht1 := ok_fr hfr1 t ht (in_mono (fun b hb => by omega) t hin)
  rw [hs, hsz]
  have HS := hidd hs
  clear hs hsz
  have hcn : ((c : Int) + 1) = ((c + 1 : Nat) : Int) := by omega
  have HCN := hidd hcn
  clear hcn
  have HPX : Hid (∀ s, s ≠ 0 → ∀ w', Fr (fun b => b = p) w w' → Blk w' p [.int .i64 ((c : Int) + 1)] 135 → ChkP E p c (Tr.szs t.kids + 1) s w (.returned (evc E s)) w') := hidd (fun s hs w' hf hb => ⟨rfl, hf, c + 1, by rw [← HCN.out]; exact hb, fun h => absurd h hs⟩)
  unfold nval
  rw [hv]
  by_cases hd8 : 8 < d
  · have h9 : s = 9 := HS.out.symm.trans (scan9 hd8)
    subst h9
    have d1 : decide ((8 : Int) < (d : Int)) = true := decide_eq_true (by omega)
    have d1' : decide (8 < d) = true := decide_eq_true (by omega)
    have hcE := hE1.cell 6 (by decide)
    unfold erv at hcE
    have HF := hidd (HPX.out 9 (by decide) _ hfr1 hp1)
    clear hE hE1 ht ht1 hbx hp hfr1 hp1 hin hv
    go_enter Tryz.func59, Tryz.ntmps59
    go_wp2_with fail
    go_ret
    exact HF.out
  have d1 : decide ((8 : Int) < (d : Int)) = false := decide_eq_false (by omega)
  have d1' : decide (8 < d) = false := decide_eq_false (by omega)
  by_cases hc2 : 200 ≤ c
  · have h9 : s = 8 := HS.out.symm.trans (scan8 hd8 hc2)
    subst h9
    have d2 : decide ((200 : Int) < (c : Int) + 1) = true := decide_eq_true (by omega)
    have hcE := hE1.cell 0 (by decide)
    unfold erv at hcE
    have HF := hidd (HPX.out 8 (by decide) _ hfr1 hp1)
    clear hE hE1 ht ht1 hbx hp hfr1 hp1 hin hv
    go_enter Tryz.func59, Tryz.ntmps59
    go_wp2_with fail
    go_ret
    exact HF.out
  have d2 : decide ((200 : Int) < (c : Int) + 1) = false := decide_eq_false (by omega)
  have HO := hidd (own_tree E B t ((w.setCell ⟨p, 0, none⟩ (.int .i64 ((c : Int) + 1))).alloc (.cells #[.string t.kind, .string t.data, .bool t.exec, .slice a t.kids.length cap] 32)) ht1 hE1)
  unfold nval at HO
  rw [hv] at HO
  have HV := hidd hv
  clear hv
  rw [ho] at HO
  by_cases ho0 : o = 0
  · subst ho0
    have hsh : s = scan (c + 1) (pres ⟨#[]⟩ (d + 1) t.kids) := HS.out.symm.trans (scan_head (by omega) (by omega) ho)
    have HSH := hidd hsh
    unfold OwnQ at HO
    rw [evc_zero] at HO
    clear hsh ho
    go_enter Tryz.func59, Tryz.ntmps59
    go_wp2_with fail
    refine HO.out.mono ?_
    rintro e w2 ⟨rfl, hb2⟩
    have hp2 := hp1.below hb2 hp1.lt
    rw [HCN.out] at hp2
    have hbx2 := hbx.below hb2 hbx.lt
    have hx3 := hbx2.cell (i := 3) rfl
    have hE2 := hE1.ob hb2
    have ht2 := ht1.ob hb2
    have hfr2 : Fr (fun b => b = p) w w2 := hfr1.trans (Fr.ob hb2)
    clear hE hE1 ht ht1 hbx hp hfr1 hp1 hb2 hbx2 hc0 hfz0 hp1c HO HPX
    go_wp2_with fail
    go_loopw [37] (fun v wr => ∃ k cn : Nat, k ≤ t.kids.length ∧ v = .int .i64 (k : Int) ∧ scan (c + 1) (pres ⟨#[]⟩ (d + 1) (t.kids.take k)) = 0 ∧ cn = c + 1 + Tr.szs (t.kids.take k) ∧ Blk wr p [.int .i64 (cn : Int)] 135 ∧ Fr (fun b => b = p) w2 wr) (fun v _ => t.kids.length - (intOf v).toNat)
    case atStart => exact ⟨0, c + 1, Nat.zero_le _, rfl, rfl, by simp [Tr.szs], hp2, Fr.refl _ _⟩
    case round =>
      obtain ⟨k, cn, hk, rfl, hsc, hcn, hpr, hfr⟩ := hrel
      have hroom := scan_room hsc (by omega)
      have hcn200 : cn ≤ 200 := by omega
      have hEr := hE2.fr hfr (fun b hb => by omega)
      have htr := ok_fr hfr t ht2 (in_mono (fun b hb => by omega) t hin)
      by_cases hlt : k < t.kids.length
      · have hks := HKA.out k hlt
        have hkk := htr.get hlt
        have hki := hin.get hlt
        obtain ⟨xa, xc, hxv⟩ := hkk.shape
        obtain ⟨b1, o1, rfl, hb1, a0, a1, a2, a3, a4⟩ := htr.at5 HV.out hlt
        have hst := scan_kids (c + 1) (d + 1) t.kids hlt hsc
        have hsz := szs_succ t.kids hlt
        have hstop := fun h => scan_stop (c := c + 1) (d := d + 1) (ks := t.kids) (k := k + 1) h
        have p1 : (0 : Int) ≤ (k : Int) := by omega
        have p2 : (k : Int) < (t.kids.length : Int) := by omega
        rw [← hcn] at hst
        generalize t.kids[k] = x at *
        obtain ⟨nx, ⟨kx, dx, ex, vx, ksx⟩⟩ := x
        simp only [Tr.kind, Tr.data, Tr.exec, Tr.v, Tr.kids] at a0 a1 a2 a3 a4 hxv
        subst hxv
        have hB3 : Below wr.heap.size wr (wr.alloc (.cells #[.string nx, .string kx, .string dx, .bool ex, .slice xa ksx.length xc] 85)) := (Below.refl _ _).alloc (Nat.le_refl _) _
        have HC := hidd (ih _ _ p cn (d + 1) hks (hkk.ob hB3) hki hBp (hEr.ob hB3) (hpr.below hB3 hpr.lt) hcn200 (by omega))
        unfold nval at HC
        simp only [Tr.kind, Tr.data, Tr.exec, Tr.v] at HC
        rw [show (((d + 1 : Nat)) : Int) = (d : Int) + 1 by omega] at HC
        simp only at hst
        obtain ⟨sk, hsk⟩ : ∃ sk, scan cn (pre ⟨#[]⟩ (d + 1) (.mk kx dx ex (.slice xa ksx.length xc) ksx : Lt)) = sk := ⟨_, rfl⟩
        rw [hsk] at hst HC
        have HST := hidd hst
        have HCN2 := hidd hcn
        have HSZ := hidd hsz
        have HSTOP := hidd hstop
        clear hst hcn hsz hstop hsk hsc
        have hpl := hpr.lt
        by_cases hs0 : sk = 0
        · subst hs0
          unfold ChkP at HC
          rw [evc_zero] at HC
          go_wp2_with fail
          refine HC.out.mono ?_
          rintro e w4 ⟨rfl, hf4, c', hp4, hc4⟩
          have hfr4 : Fr (fun b => b = p) w2 w4 := (hfr.trans (Fr.ob hB3)).trans hf4
          have HC4 := hidd (hc4 trivial)
          clear hf4 hB3 hkk hki htr hEr hpr hfr hc4 a0 a1 a2 a3 a4
          go_wp2_with fail
          go_roundw
          case rel => exact ⟨k + 1, c', hlt, by go_num, HST.out, by rw [HC4.out, HSZ.out, HCN2.out]; omega, hp4, hfr4⟩
          case measure => simp [intOf]; omega
        · have hne := evc_ne (E := E) hs0
          unfold ChkP at HC
          rw [hne] at HC
          have HNE := hidd hne
          clear hne
          have HS9 : Hid (s = sk) := hidd (by rw [HSH.out, HSTOP.out (by rw [HST.out]; exact hs0), HST.out])
          go_wp2_with fail
          refine HC.out.mono ?_
          rintro e w4 ⟨rfl, hf4, c', hp4, hc4⟩
          have hfr4 : Fr (fun b => b = p) w w4 := hfr2.trans ((hfr.trans (Fr.ob hB3)).trans hf4)
          have HF : Hid (ChkP E p c (Tr.szs t.kids + 1) s w (.returned (evc E sk)) w4) := hidd ⟨by rw [HS9.out], hfr4, c', hp4, fun h => absurd (HS9.out.symm.trans h) hs0⟩
          rw [HNE.out] at HF
          clear hf4 hB3 hkk hki htr hEr hpr hfr hc4 a0 a1 a2 a3 a4
          go_wp2_with fail
          go_ret
          exact HF.out
      · have hkl : k = t.kids.length := by omega
        have HF : Hid (ChkP E p c (Tr.szs t.kids + 1) s w (.returned .nilIface) wr) := hidd (by
          rw [hkl, List.take_of_length_le (Nat.le_refl _)] at hsc hcn
          have hs0 : s = 0 := by rw [HSH.out, hsc]
          exact ⟨by rw [hs0, evc_zero], hfr2.trans hfr, cn, hpr, fun _ => by omega⟩)
        clear hsc hcn hkl htr hEr hpr hfr hroom
        go_wp2_with fail
        go_ret
        exact HF.out
  · have h9 : s = o := HS.out.symm.trans ((scanO hd8 hc2 (by rw [ho]; exact ho0)).trans ho)
    subst h9
    have hne := evc_ne (E := E) ho0
    unfold OwnQ at HO
    rw [hne] at HO
    have HNE := hidd hne
    clear hE hE1 ht ht1 hbx hp hne ho hin
    go_enter Tryz.func59, Tryz.ntmps59
    go_wp2_with fail
    refine HO.out.mono ?_
    rintro e w2 ⟨rfl, hb2⟩
    have HF := hidd (HPX.out s ho0 _ (hfr1.trans (Fr.ob hb2)) (hp1.below hb2 hp1.lt))
    rw [HNE.out] at HF
    clear hp1 hfr1 hb2
    go_wp2_with fail
    go_ret
    exact HF.out

theorem chk_h (E : Nat → Addr) (B : Nat) : ∀ m, ChkH E B m
  | 0 => fun t w p c d hm => by have := Tr.sz_kids t; omega
  | m + 1 => chk_step E B m (chk_h E B m)

set_option maxRecDepth 100000 in
theorem check_tr (E : Nat → Addr) (B : Nat) (t : Lt) (w : World) (ht : t.Ok w) (hE : Env trGs B w E) :
    Calls Tryz.prog 29 #[nval t] w fun e w' => e = .returned (evc E (treeE t)) ∧ Below w.heap.size w w' := by
  obtain ⟨a, cap, hv⟩ := ht.shape
  have hB2 : Below w.heap.size w ((w.alloc (.cells #[.string t.kind, .string t.data, .bool t.exec, .slice a t.kids.length cap] 32)).alloc (.cells #[.int .i64 0] 135)) := ((Below.refl _ _).alloc (Nat.le_refl _) _).alloc (by simp) _
  have hb := Blk.new (w.alloc (.cells #[.string t.kind, .string t.data, .bool t.exec, .slice a t.kids.length cap] 32)) [.int .i64 ((0 : Nat) : Int)] 135
  rw [show (w.alloc (.cells #[.string t.kind, .string t.data, .bool t.exec, .slice a t.kids.length cap] 32)).heap.size = w.heap.size + 1 by simp] at hb
  have hC := chk_h E B t.sz t _ (w.heap.size + 1) 0 0 (Nat.le_refl _) (ht.ob hB2) (in_mono (fun b hb => by omega) t (ok_in t ht)) (by have := hE.size; omega) (hE.ob hB2) hb (by omega) (by omega)
  unfold nval at hC ⊢
  rw [hv] at hC ⊢
  unfold ChkP at hC
  rw [show scan 0 (pre ⟨#[]⟩ 0 t) = treeE t from rfl] at hC
  by_cases h0 : treeE t = 0
  · rw [h0, evc_zero] at hC ⊢
    have HC := hidd hC
    clear hC hb ht hE hv h0
    go_enter Tryz.func29, Tryz.ntmps29
    go_wp2_with fail
    refine HC.out.mono ?_
    rintro e w2 ⟨rfl, hf, -⟩
    have hB := hB2.trans (hf.below (B := w.heap.size) (by simp; omega) (fun b hb => by omega))
    go_wp2_with fail
    go_ret
    exact ⟨rfl, hB⟩
  · rw [evc_ne h0] at hC ⊢
    have HC := hidd hC
    clear hC hb ht hE hv h0
    go_enter Tryz.func29, Tryz.ntmps29
    go_wp2_with fail
    refine HC.out.mono ?_
    rintro e w2 ⟨rfl, hf, -⟩
    have hB := hB2.trans (hf.below (B := w.heap.size) (by simp; omega) (fun b hb => by omega))
    go_wp2_with fail
    go_ret
    exact ⟨rfl, hB⟩
theorem check_any (E : Nat → Addr) (B : Nat) (t : Lt) (w : World) (ht : t.Ok w) (hE : Env codeGs B w E) :
    Calls Tryz.prog 29 #[nval t] w fun e w' => e = .returned (evc E (treeE t)) ∧ Below w.heap.size w w' := check_tr E B t w ht hE.tr
end Go.Proofs.YtoemahhpheobkaaGreatDoor
