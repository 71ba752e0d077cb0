/- The contract of tree.own. Condition: the node is there, the variables read as listed. -/
import Derived.Test.YtbadnmfmncjdjaaGreatDoorTrK
namespace Go.Proofs.YtbadnmfmncjdjaaGreatDoor
open Go.RowKit Go.Shelf

/-- The end of tree.own: names, and their order. -/
def OwnQ (E : Nat → Addr) (c : Nat) (w : World) (e : Ending) (w' : World) : Prop := e = .returned (evc E c) ∧ Below w.heap.size w w'

theorem any_bad (ks : List (ByteArray × Lt)) : ks.any badK = !((ks.map (·.1)).all isName) := by
  induction ks with
  | nil => rfl
  | cons x r ih => simp only [List.any_cons, List.map_cons, List.all_cons, ih, badK, Bool.not_and]

set_option maxRecDepth 100000 in
set_option maxHeartbeats 40000000 in
theorem own_tree (E : Nat → Addr) (B : Nat) (t : Lt) (w : World) (ht : t.Ok w) (hE : Env trGs B w E) : Calls Tryz.prog 85 #[nval t] w (OwnQ E (ownE t) w) := by
  obtain ⟨a, cap, hv⟩ := ht.shape
  have hle := ht.le
  obtain ⟨kd, da, ex, v, ks⟩ := t
  simp only [Tr.v, Tr.kids] at hv hle
  subst hv
  have hB0 : Below w.heap.size w (w.alloc (.cells #[.string kd, .string da, .bool ex, .slice a ks.length cap] 24)) := (Below.refl _ _).alloc (Nat.le_refl _) _
  have hE0 := hE.ob hB0
  have ht0 := ht.ob hB0
  have hbx := Blk.new w [.string kd, .string da, .bool ex, .slice a ks.length cap] 24
  have HS := hidd (shape_any _ _ ht0)
  have hcK := hE0.cell 6 (by decide)
  have hoe : ownE (.mk kd da ex (.slice a ks.length cap) ks : Lt) = if ¬ (kd = kFile ∨ kd = kDir ∨ kd = kLink) then 4 else if shapeB (.mk kd da ex (.slice a ks.length cap) ks : Lt) = false then 3
      else if 2000 < da.size ∨ (kd = kLink ∧ (da.size = 0 ∨ 40 < da.size)) then 2 else if kd = kLink ∧ linkOk da = false then 1
      else if (ks.map (·.1)).all isName = false then 5 else if rising (ks.map (·.1)) = false then 10 else 0 := rfl
  obtain ⟨c, hc⟩ : ∃ c, ownE (.mk kd da ex (.slice a ks.length cap) ks : Lt) = c := ⟨_, rfl⟩
  rw [hc] at hoe ⊢
  have n1 : ¬ kDir = kLink := by decide
  have n2 : ¬ kFile = kLink := by decide
  unfold nval at HS ⊢
  simp only [Tr.kind, Tr.data, Tr.exec, Tr.v] at HS ⊢
  have hb0 : kd = kFile ∨ kd = kDir ∨ kd = kLink → ¬ ¬ (kd = kFile ∨ kd = kDir ∨ kd = kLink) := fun h => not_not_intro h
  have hdd : (da.size = 0 ∧ da.toList.isEmpty = true ∧ da.toList = []) ∨ (da.size ≠ 0 ∧ da.toList.isEmpty = false ∧ (da.toList == []) = false) := by
    by_cases h : da.size = 0
    · exact .inl ⟨h, isEmpty_of h, emp_list h⟩
    · exact .inr ⟨h, isEmpty_no h, emp_no h⟩
  unfold OwnQ
  rcases kindTests kd with ⟨hk, q1, q2, q3⟩ | ⟨hk, q1, q2, q3⟩ | ⟨hk, q1, q2, q3⟩ | ⟨hk, q1, q2, q3⟩
  · have hh := hb0 (.inl hk)
    rw [if_neg hh] at hoe
    clear hh
    cases hsh : shapeB (.mk kd da ex (.slice a ks.length cap) ks : Lt)
    · rw [if_pos hsh] at hoe
      subst hoe
      rw [hsh] at HS
      clear hsh hk
      go_enter Tryz.func85, Tryz.ntmps85
      go_wp2_with fail
      refine HS.out.mono ?_
      rintro e w1 ⟨rfl, hb1⟩
      have hc1 := (hE0.ob hb1).cell 1 (by decide)
      unfold erv at hc1
      go_wp2_with fail
      go_ret
      exact ⟨rfl, hB0.trans (hb1.mono hB0.size)⟩
    · rw [if_neg (by rw [hsh]; decide)] at hoe
      rw [hsh] at HS
      clear hsh
      by_cases hbig : 2000 < da.size
      · have d1 : decide ((2000 : Int) < (da.size : Int)) = true := decide_eq_true (by omega)
        rw [if_pos (.inl hbig)] at hoe
        subst hoe
        clear hk
        go_enter Tryz.func85, Tryz.ntmps85
        go_wp2_with fail
        refine HS.out.mono ?_
        rintro e w1 ⟨rfl, hb1⟩
        have hB1 := hB0.trans (hb1.mono hB0.size)
        have hE1 := hE0.ob hb1
        have hbx1 := hbx.below hb1 hbx.lt
        have y0 := hbx1.cell (i := 0) rfl
        have y1 := hbx1.cell (i := 1) rfl
        have hc1 := hE1.cell 5 (by decide)
        unfold erv at hc1
        clear hb1 hE0 ht0 hbx hB0
        go_wp2_with fail
        go_ret
        exact ⟨rfl, hB1⟩
      have d1 : decide ((2000 : Int) < (da.size : Int)) = false := decide_eq_false (by omega)
      rw [if_neg (by rintro (h | ⟨h, -⟩); exact hbig h; exact n2 (hk ▸ h)), if_neg (by rintro ⟨h, -⟩; exact n2 (hk ▸ h))] at hoe
      clear hk
      cases hnm : (ks.map (·.1)).all isName
      · rw [if_pos hnm] at hoe
        subst hoe
        have HK := hidd (fun W (hw : (Tr.mk kd da ex (.slice a ks.length cap) ks : Lt).Ok W) => kid_any _ W hw true (by simp only [Tr.kids]; rw [any_bad, hnm]; rfl))
        simp only [Tr.v] at HK
        clear hnm
        go_enter Tryz.func85, Tryz.ntmps85
        go_wp2_with fail
        refine HS.out.mono ?_
        rintro e w1 ⟨rfl, hb1⟩
        have hB1 := hB0.trans (hb1.mono hB0.size)
        have hE1 := hE0.ob hb1
        have ht1 := ht0.ob hb1
        have hbx1 := hbx.below hb1 hbx.lt
        have y0 := hbx1.cell (i := 0) rfl
        have y1 := hbx1.cell (i := 1) rfl
        have y3 := hbx1.cell (i := 3) rfl
        clear hb1 hE0 ht0 hbx hB0
        go_wp2_with fail
        refine (HK.out _ ht1).mono ?_
        rintro e w2 ⟨rfl, hb2⟩
        have hc2 := (hE1.ob hb2).cell 2 (by decide)
        unfold erv at hc2
        go_wp2_with fail
        go_ret
        exact ⟨rfl, hB1.trans (hb2.mono hB1.size)⟩
      · rw [if_neg (by rw [hnm]; decide)] at hoe
        have HK := hidd (fun W (hw : (Tr.mk kd da ex (.slice a ks.length cap) ks : Lt).Ok W) => kid_any _ W hw false (by simp only [Tr.kids]; rw [any_bad, hnm]; rfl))
        simp only [Tr.v] at HK
        have HOE := hidd hoe
        clear hnm hoe
        go_enter Tryz.func85, Tryz.ntmps85
        go_wp2_with fail
        refine HS.out.mono ?_
        rintro e w1 ⟨rfl, hb1⟩
        have hB1 := hB0.trans (hb1.mono hB0.size)
        have hE1 := hE0.ob hb1
        have ht1 := ht0.ob hb1
        have hbx1 := hbx.below hb1 hbx.lt
        have y0 := hbx1.cell (i := 0) rfl
        have y1 := hbx1.cell (i := 1) rfl
        have y3 := hbx1.cell (i := 3) rfl
        clear hb1 hE0 ht0 hbx hB0
        go_wp2_with fail
        refine (HK.out _ ht1).mono ?_
        rintro e w2 ⟨rfl, hb2⟩
        have hB2 := hB1.trans (hb2.mono hB1.size)
        have hE2 := hE1.ob hb2
        have ht2 := ht1.ob hb2
        have hx2 := hbx1.below hb2 hbx1.lt
        have hx3 := hx2.cell (i := 3) rfl
        have hxl := hx2.lt
        clear hb2 hE1 ht1 hbx1 hB1 hx2
        go_wp2_with fail
        go_loopw [3] (fun t wr => ∃ k : Nat, 1 ≤ k ∧ (k ≤ ks.length ∨ k = 1) ∧ t = .int .i64 (k : Int) ∧ rising ((ks.map (·.1)).take k) = true ∧ Below w2.heap.size w2 wr) (fun t _ => ks.length + 1 - (intOf t).toNat)
        case atStart => exact ⟨1, Nat.le_refl _, .inr rfl, rfl, rising_le_one (by rw [List.length_take]; omega), Below.refl _ _⟩
        case round =>
          obtain ⟨k, hk1, hk2, rfl, hris, hbel⟩ := hrel
          have hxr := (hbel.cell (p := ⟨w.heap.size, 3, none⟩) hxl).trans hx3
          have hEr := hE2.ob hbel
          have hcr := hEr.cell 9 (by decide)
          unfold erv at hcr
          by_cases hlt : k < ks.length
          · have hA := ht2.ob hbel
            have hrt := rising_take (l := ks.map (·.1)) (k := k) hk1 (by simpa using hlt)
            have hfr := rising_front ((ks.map (·.1)).take (k + 1)) ((ks.map (·.1)).drop (k + 1))
            rw [List.take_append_drop] at hfr
            obtain ⟨b1, o1, rfl, hb1, a0, -⟩ := hA.at5 rfl hlt
            obtain ⟨b2, o2, hab, hb2, c0, -⟩ := hA.at5 rfl (i := k - 1) (by simp only [Tr.kids]; omega)
            simp only [Option.some.injEq, Addr.mk.injEq] at hab
            obtain ⟨rfl, rfl, -⟩ := hab
            simp only [Tr.kids] at a0 c0
            rw [hris, Bool.true_and, List.getElem_map, List.getElem_map] at hrt
            have p0 : (1 : Int) ≤ (k : Int) := by omega
            have p1 : (0 : Int) ≤ (k : Int) := by omega
            have p2 : (k : Int) < (ks.length : Int) := by omega
            have p3 : (0 : Int) ≤ (k : Int) - 1 := by omega
            have p4 : (k : Int) - 1 < (ks.length : Int) := by omega
            have hw1 : IntKind.i64.wrap ((k : Int) - 1) = (k : Int) - 1 := i64_in _ (by omega)
            have hw2 : ((k : Int) - 1).toNat = k - 1 := by omega
            generalize ks[k] = x at *
            generalize ks[k - 1]'(by omega) = y at *
            cases hl : leB x.1 y.1
            · have hl' : (Op.bytesLess x.1.toList y.1.toList || x.1.toList == y.1.toList) = false := hl
              rw [hl] at hrt
              have HRT := hidd hrt
              clear hl hrt hfr hA hris hk2
              go_wp2_with fail
              go_quiet (fail)
              go_wp2_with fail
              clear hw1 hw2
              go_roundw
              case rel => exact ⟨k + 1, by omega, .inl (by omega), by go_num, HRT.out, by first | exact hbel | exact hbel.drew | exact hbel.trans (Below.drewN _ _ _)⟩
              case measure => simp [intOf]; omega
            · have hl' : (Op.bytesLess x.1.toList y.1.toList || x.1.toList == y.1.toList) = true := hl
              rw [hl] at hrt
              have HC : Hid (c = 10) := hidd (by
                rw [HOE.out, if_pos]
                cases hr : rising (ks.map (·.1)) with
                | false => rfl
                | true => have := hfr hr; rw [hrt] at this; cases this)
              clear hl hrt hfr hA hris hk2
              go_wp2_with fail
              go_quiet (fail)
              go_wp2_with fail
              go_ret
              refine ⟨by rw [HC.out]; rfl, ?_⟩
              first | exact hB2.trans (hbel.mono hB2.size) | exact hB2.trans ((hbel.drew).mono hB2.size) | exact hB2.trans ((hbel.trans (Below.drewN _ _ _)).mono hB2.size)
          · have HC : Hid (c = 0) := hidd (by
              rw [HOE.out, if_neg]
              have : rising (ks.map (·.1)) = true := by
                by_cases h : ks.length ≤ 1
                · exact rising_le_one (by simpa using h)
                · rw [List.take_of_length_le (by simp; omega)] at hris; exact hris
              rw [this]; decide)
            clear hris hk2
            go_wp2_with fail
            go_ret
            exact ⟨by rw [HC.out]; rfl, hB2.trans (hbel.mono hB2.size)⟩
  · have hh := hb0 (.inr (.inl hk))
    rw [if_neg hh] at hoe
    clear hh
    cases hsh : shapeB (.mk kd da ex (.slice a ks.length cap) ks : Lt)
    · rw [if_pos hsh] at hoe
      subst hoe
      rw [hsh] at HS
      clear hsh hk
      go_enter Tryz.func85, Tryz.ntmps85
      go_wp2_with fail
      refine HS.out.mono ?_
      rintro e w1 ⟨rfl, hb1⟩
      have hc1 := (hE0.ob hb1).cell 1 (by decide)
      unfold erv at hc1
      go_wp2_with fail
      go_ret
      exact ⟨rfl, hB0.trans (hb1.mono hB0.size)⟩
    · rw [if_neg (by rw [hsh]; decide)] at hoe
      rw [hsh] at HS
      clear hsh
      by_cases hbig : 2000 < da.size
      · have d1 : decide ((2000 : Int) < (da.size : Int)) = true := decide_eq_true (by omega)
        rw [if_pos (.inl hbig)] at hoe
        subst hoe
        clear hk
        go_enter Tryz.func85, Tryz.ntmps85
        go_wp2_with fail
        refine HS.out.mono ?_
        rintro e w1 ⟨rfl, hb1⟩
        have hB1 := hB0.trans (hb1.mono hB0.size)
        have hE1 := hE0.ob hb1
        have hbx1 := hbx.below hb1 hbx.lt
        have y0 := hbx1.cell (i := 0) rfl
        have y1 := hbx1.cell (i := 1) rfl
        have hc1 := hE1.cell 5 (by decide)
        unfold erv at hc1
        clear hb1 hE0 ht0 hbx hB0
        go_wp2_with fail
        go_ret
        exact ⟨rfl, hB1⟩
      have d1 : decide ((2000 : Int) < (da.size : Int)) = false := decide_eq_false (by omega)
      rw [if_neg (by rintro (h | ⟨h, -⟩); exact hbig h; exact n1 (hk ▸ h)), if_neg (by rintro ⟨h, -⟩; exact n1 (hk ▸ h))] at hoe
      clear hk
      cases hnm : (ks.map (·.1)).all isName
      · rw [if_pos hnm] at hoe
        subst hoe
        have HK := hidd (fun W (hw : (Tr.mk kd da ex (.slice a ks.length cap) ks : Lt).Ok W) => kid_any _ W hw true (by simp only [Tr.kids]; rw [any_bad, hnm]; rfl))
        simp only [Tr.v] at HK
        clear hnm
        go_enter Tryz.func85, Tryz.ntmps85
        go_wp2_with fail
        refine HS.out.mono ?_
        rintro e w1 ⟨rfl, hb1⟩
        have hB1 := hB0.trans (hb1.mono hB0.size)
        have hE1 := hE0.ob hb1
        have ht1 := ht0.ob hb1
        have hbx1 := hbx.below hb1 hbx.lt
        have y0 := hbx1.cell (i := 0) rfl
        have y1 := hbx1.cell (i := 1) rfl
        have y3 := hbx1.cell (i := 3) rfl
        clear hb1 hE0 ht0 hbx hB0
        go_wp2_with fail
        refine (HK.out _ ht1).mono ?_
        rintro e w2 ⟨rfl, hb2⟩
        have hc2 := (hE1.ob hb2).cell 2 (by decide)
        unfold erv at hc2
        go_wp2_with fail
        go_ret
        exact ⟨rfl, hB1.trans (hb2.mono hB1.size)⟩
      · rw [if_neg (by rw [hnm]; decide)] at hoe
        have HK := hidd (fun W (hw : (Tr.mk kd da ex (.slice a ks.length cap) ks : Lt).Ok W) => kid_any _ W hw false (by simp only [Tr.kids]; rw [any_bad, hnm]; rfl))
        simp only [Tr.v] at HK
        have HOE := hidd hoe
        clear hnm hoe
        go_enter Tryz.func85, Tryz.ntmps85
        go_wp2_with fail
        refine HS.out.mono ?_
        rintro e w1 ⟨rfl, hb1⟩
        have hB1 := hB0.trans (hb1.mono hB0.size)
        have hE1 := hE0.ob hb1
        have ht1 := ht0.ob hb1
        have hbx1 := hbx.below hb1 hbx.lt
        have y0 := hbx1.cell (i := 0) rfl
        have y1 := hbx1.cell (i := 1) rfl
        have y3 := hbx1.cell (i := 3) rfl
        clear hb1 hE0 ht0 hbx hB0
        go_wp2_with fail
        refine (HK.out _ ht1).mono ?_
        rintro e w2 ⟨rfl, hb2⟩
        have hB2 := hB1.trans (hb2.mono hB1.size)
        have hE2 := hE1.ob hb2
        have ht2 := ht1.ob hb2
        have hx2 := hbx1.below hb2 hbx1.lt
        have hx3 := hx2.cell (i := 3) rfl
        have hxl := hx2.lt
        clear hb2 hE1 ht1 hbx1 hB1 hx2
        go_wp2_with fail
        go_loopw [3] (fun t wr => ∃ k : Nat, 1 ≤ k ∧ (k ≤ ks.length ∨ k = 1) ∧ t = .int .i64 (k : Int) ∧ rising ((ks.map (·.1)).take k) = true ∧ Below w2.heap.size w2 wr) (fun t _ => ks.length + 1 - (intOf t).toNat)
        case atStart => exact ⟨1, Nat.le_refl _, .inr rfl, rfl, rising_le_one (by rw [List.length_take]; omega), Below.refl _ _⟩
        case round =>
          obtain ⟨k, hk1, hk2, rfl, hris, hbel⟩ := hrel
          have hxr := (hbel.cell (p := ⟨w.heap.size, 3, none⟩) hxl).trans hx3
          have hEr := hE2.ob hbel
          have hcr := hEr.cell 9 (by decide)
          unfold erv at hcr
          by_cases hlt : k < ks.length
          · have hA := ht2.ob hbel
            have hrt := rising_take (l := ks.map (·.1)) (k := k) hk1 (by simpa using hlt)
            have hfr := rising_front ((ks.map (·.1)).take (k + 1)) ((ks.map (·.1)).drop (k + 1))
            rw [List.take_append_drop] at hfr
            obtain ⟨b1, o1, rfl, hb1, a0, -⟩ := hA.at5 rfl hlt
            obtain ⟨b2, o2, hab, hb2, c0, -⟩ := hA.at5 rfl (i := k - 1) (by simp only [Tr.kids]; omega)
            simp only [Option.some.injEq, Addr.mk.injEq] at hab
            obtain ⟨rfl, rfl, -⟩ := hab
            simp only [Tr.kids] at a0 c0
            rw [hris, Bool.true_and, List.getElem_map, List.getElem_map] at hrt
            have p0 : (1 : Int) ≤ (k : Int) := by omega
            have p1 : (0 : Int) ≤ (k : Int) := by omega
            have p2 : (k : Int) < (ks.length : Int) := by omega
            have p3 : (0 : Int) ≤ (k : Int) - 1 := by omega
            have p4 : (k : Int) - 1 < (ks.length : Int) := by omega
            have hw1 : IntKind.i64.wrap ((k : Int) - 1) = (k : Int) - 1 := i64_in _ (by omega)
            have hw2 : ((k : Int) - 1).toNat = k - 1 := by omega
            generalize ks[k] = x at *
            generalize ks[k - 1]'(by omega) = y at *
            cases hl : leB x.1 y.1
            · have hl' : (Op.bytesLess x.1.toList y.1.toList || x.1.toList == y.1.toList) = false := hl
              rw [hl] at hrt
              have HRT := hidd hrt
              clear hl hrt hfr hA hris hk2
              go_wp2_with fail
              go_quiet (fail)
              go_wp2_with fail
              clear hw1 hw2
              go_roundw
              case rel => exact ⟨k + 1, by omega, .inl (by omega), by go_num, HRT.out, by first | exact hbel | exact hbel.drew | exact hbel.trans (Below.drewN _ _ _)⟩
              case measure => simp [intOf]; omega
            · have hl' : (Op.bytesLess x.1.toList y.1.toList || x.1.toList == y.1.toList) = true := hl
              rw [hl] at hrt
              have HC : Hid (c = 10) := hidd (by
                rw [HOE.out, if_pos]
                cases hr : rising (ks.map (·.1)) with
                | false => rfl
                | true => have := hfr hr; rw [hrt] at this; cases this)
              clear hl hrt hfr hA hris hk2
              go_wp2_with fail
              go_quiet (fail)
              go_wp2_with fail
              go_ret
              refine ⟨by rw [HC.out]; rfl, ?_⟩
              first | exact hB2.trans (hbel.mono hB2.size) | exact hB2.trans ((hbel.drew).mono hB2.size) | exact hB2.trans ((hbel.trans (Below.drewN _ _ _)).mono hB2.size)
          · have HC : Hid (c = 0) := hidd (by
              rw [HOE.out, if_neg]
              have : rising (ks.map (·.1)) = true := by
                by_cases h : ks.length ≤ 1
                · exact rising_le_one (by simpa using h)
                · rw [List.take_of_length_le (by simp; omega)] at hris; exact hris
              rw [this]; decide)
            clear hris hk2
            go_wp2_with fail
            go_ret
            exact ⟨by rw [HC.out]; rfl, hB2.trans (hbel.mono hB2.size)⟩
  · have hh := hb0 (.inr (.inr hk))
    rw [if_neg hh] at hoe
    clear hh
    cases hsh : shapeB (.mk kd da ex (.slice a ks.length cap) ks : Lt)
    · rw [if_pos hsh] at hoe
      subst hoe
      rw [hsh] at HS
      clear hsh hk
      go_enter Tryz.func85, Tryz.ntmps85
      go_wp2_with fail
      refine HS.out.mono ?_
      rintro e w1 ⟨rfl, hb1⟩
      have hc1 := (hE0.ob hb1).cell 1 (by decide)
      unfold erv at hc1
      go_wp2_with fail
      go_ret
      exact ⟨rfl, hB0.trans (hb1.mono hB0.size)⟩
    · rw [if_neg (by rw [hsh]; decide)] at hoe
      rw [hsh] at HS
      clear hsh
      by_cases hbig : 2000 < da.size
      · have d1 : decide ((2000 : Int) < (da.size : Int)) = true := decide_eq_true (by omega)
        rw [if_pos (.inl hbig)] at hoe
        subst hoe
        clear hk
        go_enter Tryz.func85, Tryz.ntmps85
        go_wp2_with fail
        refine HS.out.mono ?_
        rintro e w1 ⟨rfl, hb1⟩
        have hB1 := hB0.trans (hb1.mono hB0.size)
        have hE1 := hE0.ob hb1
        have hbx1 := hbx.below hb1 hbx.lt
        have y0 := hbx1.cell (i := 0) rfl
        have y1 := hbx1.cell (i := 1) rfl
        have hc1 := hE1.cell 5 (by decide)
        unfold erv at hc1
        clear hb1 hE0 ht0 hbx hB0
        go_wp2_with fail
        go_ret
        exact ⟨rfl, hB1⟩
      have d1 : decide ((2000 : Int) < (da.size : Int)) = false := decide_eq_false (by omega)
      rcases hdd with ⟨dz, z1, z2⟩ | ⟨dz, z1, z2⟩
      · rw [if_pos (.inr ⟨hk, .inl dz⟩)] at hoe
        subst hoe
        clear hk
        go_enter Tryz.func85, Tryz.ntmps85
        go_wp2_with fail
        refine HS.out.mono ?_
        rintro e w1 ⟨rfl, hb1⟩
        have hB1 := hB0.trans (hb1.mono hB0.size)
        have hE1 := hE0.ob hb1
        have hbx1 := hbx.below hb1 hbx.lt
        have y0 := hbx1.cell (i := 0) rfl
        have y1 := hbx1.cell (i := 1) rfl
        have hc1 := hE1.cell 5 (by decide)
        unfold erv at hc1
        clear hb1 hE0 ht0 hbx hB0
        go_wp2_with fail
        go_ret
        exact ⟨rfl, hB1⟩
      by_cases h40 : 40 < da.size
      · have d2 : decide ((40 : Int) < (da.size : Int)) = true := decide_eq_true (by omega)
        rw [if_pos (.inr ⟨hk, .inr h40⟩)] at hoe
        subst hoe
        clear hk
        go_enter Tryz.func85, Tryz.ntmps85
        go_wp2_with fail
        refine HS.out.mono ?_
        rintro e w1 ⟨rfl, hb1⟩
        have hB1 := hB0.trans (hb1.mono hB0.size)
        have hE1 := hE0.ob hb1
        have hbx1 := hbx.below hb1 hbx.lt
        have y0 := hbx1.cell (i := 0) rfl
        have y1 := hbx1.cell (i := 1) rfl
        have hc1 := hE1.cell 5 (by decide)
        unfold erv at hc1
        clear hb1 hE0 ht0 hbx hB0
        go_wp2_with fail
        go_ret
        exact ⟨rfl, hB1⟩
      have d2 : decide ((40 : Int) < (da.size : Int)) = false := decide_eq_false (by omega)
      rw [if_neg (by rintro (h | ⟨-, h | h⟩); exact hbig h; exact dz h; exact h40 h)] at hoe
      have HLK := hidd (fun W => link_any da W)
      cases hlk : linkOk da
      · rw [if_pos ⟨hk, hlk⟩] at hoe
        subst hoe
        rw [hlk] at HLK
        clear hlk hk
        go_enter Tryz.func85, Tryz.ntmps85
        go_wp2_with fail
        refine HS.out.mono ?_
        rintro e w1 ⟨rfl, hb1⟩
        have hB1 := hB0.trans (hb1.mono hB0.size)
        have hE1 := hE0.ob hb1
        have ht1 := ht0.ob hb1
        have hbx1 := hbx.below hb1 hbx.lt
        have y0 := hbx1.cell (i := 0) rfl
        have y1 := hbx1.cell (i := 1) rfl
        have y3 := hbx1.cell (i := 3) rfl
        clear hb1 hE0 ht0 hbx hB0
        go_wp2_with fail
        refine (HLK.out _).mono ?_
        rintro e w3 ⟨rfl, hb3⟩
        have hc3 := (hE1.ob hb3).cell 4 (by decide)
        unfold erv at hc3
        go_wp2_with fail
        go_ret
        exact ⟨rfl, hB1.trans (hb3.mono hB1.size)⟩
      rw [if_neg (by rintro ⟨-, h⟩; rw [hlk] at h; cases h)] at hoe
      rw [hlk] at HLK
      clear hlk hk
      cases hnm : (ks.map (·.1)).all isName
      · rw [if_pos hnm] at hoe
        subst hoe
        have HK := hidd (fun W (hw : (Tr.mk kd da ex (.slice a ks.length cap) ks : Lt).Ok W) => kid_any _ W hw true (by simp only [Tr.kids]; rw [any_bad, hnm]; rfl))
        simp only [Tr.v] at HK
        clear hnm
        go_enter Tryz.func85, Tryz.ntmps85
        go_wp2_with fail
        refine HS.out.mono ?_
        rintro e w0 ⟨rfl, hb00⟩
        have hB1 := hB0.trans (hb00.mono hB0.size)
        have hE1 := hE0.ob hb00
        have ht1 := ht0.ob hb00
        have hbx1 := hbx.below hb00 hbx.lt
        have y0 := hbx1.cell (i := 0) rfl
        have y1 := hbx1.cell (i := 1) rfl
        have y3 := hbx1.cell (i := 3) rfl
        clear hb00 hE0 ht0 hbx hB0
        go_wp2_with fail
        refine (HLK.out _).mono ?_
        rintro e w1 ⟨rfl, hb3⟩
        have hB1' := hB1.trans (hb3.mono hB1.size)
        have hE1' := hE1.ob hb3
        have ht1' := ht1.ob hb3
        have hbx1' := hbx1.below hb3 hbx1.lt
        clear hB1 hE1 ht1 hbx1 y0 y1 y3
        have hB1 := hB1'
        have hE1 := hE1'
        have ht1 := ht1'
        have hbx1 := hbx1'
        clear hB1' hE1' ht1' hbx1'
        have y3 := hbx1.cell (i := 3) rfl
        clear hb3
        go_wp2_with fail
        refine (HK.out _ ht1).mono ?_
        rintro e w2 ⟨rfl, hb2⟩
        have hc2 := (hE1.ob hb2).cell 2 (by decide)
        unfold erv at hc2
        go_wp2_with fail
        go_ret
        exact ⟨rfl, hB1.trans (hb2.mono hB1.size)⟩
      · rw [if_neg (by rw [hnm]; decide)] at hoe
        have HK := hidd (fun W (hw : (Tr.mk kd da ex (.slice a ks.length cap) ks : Lt).Ok W) => kid_any _ W hw false (by simp only [Tr.kids]; rw [any_bad, hnm]; rfl))
        simp only [Tr.v] at HK
        have HOE := hidd hoe
        clear hnm hoe
        go_enter Tryz.func85, Tryz.ntmps85
        go_wp2_with fail
        refine HS.out.mono ?_
        rintro e w0 ⟨rfl, hb00⟩
        have hB1 := hB0.trans (hb00.mono hB0.size)
        have hE1 := hE0.ob hb00
        have ht1 := ht0.ob hb00
        have hbx1 := hbx.below hb00 hbx.lt
        have y0 := hbx1.cell (i := 0) rfl
        have y1 := hbx1.cell (i := 1) rfl
        have y3 := hbx1.cell (i := 3) rfl
        clear hb00 hE0 ht0 hbx hB0
        go_wp2_with fail
        refine (HLK.out _).mono ?_
        rintro e w1 ⟨rfl, hb3⟩
        have hB1' := hB1.trans (hb3.mono hB1.size)
        have hE1' := hE1.ob hb3
        have ht1' := ht1.ob hb3
        have hbx1' := hbx1.below hb3 hbx1.lt
        clear hB1 hE1 ht1 hbx1 y0 y1 y3
        have hB1 := hB1'
        have hE1 := hE1'
        have ht1 := ht1'
        have hbx1 := hbx1'
        clear hB1' hE1' ht1' hbx1'
        have y3 := hbx1.cell (i := 3) rfl
        clear hb3
        go_wp2_with fail
        refine (HK.out _ ht1).mono ?_
        rintro e w2 ⟨rfl, hb2⟩
        have hB2 := hB1.trans (hb2.mono hB1.size)
        have hE2 := hE1.ob hb2
        have ht2 := ht1.ob hb2
        have hx2 := hbx1.below hb2 hbx1.lt
        have hx3 := hx2.cell (i := 3) rfl
        have hxl := hx2.lt
        clear hb2 hE1 ht1 hbx1 hB1 hx2
        go_wp2_with fail
        go_loopw [3] (fun t wr => ∃ k : Nat, 1 ≤ k ∧ (k ≤ ks.length ∨ k = 1) ∧ t = .int .i64 (k : Int) ∧ rising ((ks.map (·.1)).take k) = true ∧ Below w2.heap.size w2 wr) (fun t _ => ks.length + 1 - (intOf t).toNat)
        case atStart => exact ⟨1, Nat.le_refl _, .inr rfl, rfl, rising_le_one (by rw [List.length_take]; omega), Below.refl _ _⟩
        case round =>
          obtain ⟨k, hk1, hk2, rfl, hris, hbel⟩ := hrel
          have hxr := (hbel.cell (p := ⟨w.heap.size, 3, none⟩) hxl).trans hx3
          have hEr := hE2.ob hbel
          have hcr := hEr.cell 9 (by decide)
          unfold erv at hcr
          by_cases hlt : k < ks.length
          · have hA := ht2.ob hbel
            have hrt := rising_take (l := ks.map (·.1)) (k := k) hk1 (by simpa using hlt)
            have hfr := rising_front ((ks.map (·.1)).take (k + 1)) ((ks.map (·.1)).drop (k + 1))
            rw [List.take_append_drop] at hfr
            obtain ⟨b1, o1, rfl, hb1, a0, -⟩ := hA.at5 rfl hlt
            obtain ⟨b2, o2, hab, hb2, c0, -⟩ := hA.at5 rfl (i := k - 1) (by simp only [Tr.kids]; omega)
            simp only [Option.some.injEq, Addr.mk.injEq] at hab
            obtain ⟨rfl, rfl, -⟩ := hab
            simp only [Tr.kids] at a0 c0
            rw [hris, Bool.true_and, List.getElem_map, List.getElem_map] at hrt
            have p0 : (1 : Int) ≤ (k : Int) := by omega
            have p1 : (0 : Int) ≤ (k : Int) := by omega
            have p2 : (k : Int) < (ks.length : Int) := by omega
            have p3 : (0 : Int) ≤ (k : Int) - 1 := by omega
            have p4 : (k : Int) - 1 < (ks.length : Int) := by omega
            have hw1 : IntKind.i64.wrap ((k : Int) - 1) = (k : Int) - 1 := i64_in _ (by omega)
            have hw2 : ((k : Int) - 1).toNat = k - 1 := by omega
            generalize ks[k] = x at *
            generalize ks[k - 1]'(by omega) = y at *
            cases hl : leB x.1 y.1
            · have hl' : (Op.bytesLess x.1.toList y.1.toList || x.1.toList == y.1.toList) = false := hl
              rw [hl] at hrt
              have HRT := hidd hrt
              clear hl hrt hfr hA hris hk2
              go_wp2_with fail
              go_quiet (fail)
              go_wp2_with fail
              clear hw1 hw2
              go_roundw
              case rel => exact ⟨k + 1, by omega, .inl (by omega), by go_num, HRT.out, by first | exact hbel | exact hbel.drew | exact hbel.trans (Below.drewN _ _ _)⟩
              case measure => simp [intOf]; omega
            · have hl' : (Op.bytesLess x.1.toList y.1.toList || x.1.toList == y.1.toList) = true := hl
              rw [hl] at hrt
              have HC : Hid (c = 10) := hidd (by
                rw [HOE.out, if_pos]
                cases hr : rising (ks.map (·.1)) with
                | false => rfl
                | true => have := hfr hr; rw [hrt] at this; cases this)
              clear hl hrt hfr hA hris hk2
              go_wp2_with fail
              go_quiet (fail)
              go_wp2_with fail
              go_ret
              refine ⟨by rw [HC.out]; rfl, ?_⟩
              first | exact hB2.trans (hbel.mono hB2.size) | exact hB2.trans ((hbel.drew).mono hB2.size) | exact hB2.trans ((hbel.trans (Below.drewN _ _ _)).mono hB2.size)
          · have HC : Hid (c = 0) := hidd (by
              rw [HOE.out, if_neg]
              have : rising (ks.map (·.1)) = true := by
                by_cases h : ks.length ≤ 1
                · exact rising_le_one (by simpa using h)
                · rw [List.take_of_length_le (by simp; omega)] at hris; exact hris
              rw [this]; decide)
            clear hris hk2
            go_wp2_with fail
            go_ret
            exact ⟨by rw [HC.out]; rfl, hB2.trans (hbel.mono hB2.size)⟩
  · rw [if_pos (by rintro (h | h | h); exact hk.1 h; exact hk.2.1 h; exact hk.2.2 h)] at hoe
    subst hoe
    unfold erv at hcK
    clear hk
    go_enter Tryz.func85, Tryz.ntmps85
    go_wp2_with fail
    go_ret
    exact ⟨rfl, hB0⟩
end Go.Proofs.YtbadnmfmncjdjaaGreatDoor
