/- The contract of the reference's nodeError. Condition: the node is there. -/
import Derived.Test.YtccplkbbaodpeaaDoorTrK
namespace Go.Proofs.YtccplkbbaodpeaaDoor
open Go.RowKit Go.Shelf

def NodE (c : Nat) (w : World) (e : Ending) (w' : World) : Prop := e = .returned (.int .i64 (c : Int)) ∧ Below w.heap.size w w'

set_option maxRecDepth 100000 in
set_option maxHeartbeats 40000000 in
theorem nodeErr_any (t : Lt) (w : World) (ht : t.Ok w) : Calls Tryd.prog 29 #[nval t] w (NodE (ownE t) w) := by
  obtain ⟨a, cap, hv⟩ := ht.shape
  have hle := ht.le
  obtain ⟨kd, da, ex, v, ks⟩ := t
  simp only [Tr.v, Tr.kids] at hv hle
  subst hv
  have hB0 : Below w.heap.size w (w.alloc (.cells #[.string kd, .string da, .bool ex, .slice a ks.length cap] 24)) := (Below.refl _ _).alloc (Nat.le_refl _) _
  have ht0 := ht.ob hB0
  have hbx := Blk.new w [.string kd, .string da, .bool ex, .slice a ks.length cap] 24
  have hoe : ownE (.mk kd da ex (.slice a ks.length cap) ks : Lt) = if ¬ (kd = kFile ∨ kd = kDir ∨ kd = kLink) then 4 else if shapeB (.mk kd da ex (.slice a ks.length cap) ks : Lt) = false then 3
      else if 2000 < da.size ∨ (kd = kLink ∧ (da.size = 0 ∨ 40 < da.size)) then 2 else if kd = kLink ∧ linkOk da = false then 1
      else if (ks.map (·.1)).all isName = false then 5 else if rising (ks.map (·.1)) = false then 10 else 0 := rfl
  have hsb : shapeB (.mk kd da ex (.slice a ks.length cap) ks : Lt) = if kd = kFile then decide (ks.length = 0) else if kd = kDir then decide (da.size = 0) && !ex else !ex && decide (ks.length = 0) := rfl
  obtain ⟨c, hc⟩ : ∃ c, ownE (.mk kd da ex (.slice a ks.length cap) ks : Lt) = c := ⟨_, rfl⟩
  rw [hc] at hoe ⊢
  have n1 : ¬ kDir = kLink := by decide
  have n2 : ¬ kFile = kLink := by decide
  have n3 : ¬ kDir = kFile := by decide
  have n4 : ¬ kLink = kFile := by decide
  have n5 : ¬ kLink = kDir := by decide
  unfold nval
  simp only [Tr.kind, Tr.data, Tr.exec, Tr.v]
  have hb0 : kd = kFile ∨ kd = kDir ∨ kd = kLink → ¬ ¬ (kd = kFile ∨ kd = kDir ∨ kd = kLink) := fun h => not_not_intro h
  have hdd : (da.size = 0 ∧ da.toList.isEmpty = true ∧ da.toList = []) ∨ (da.size ≠ 0 ∧ da.toList.isEmpty = false ∧ (da.toList == []) = false) := by
    by_cases h : da.size = 0
    · exact .inl ⟨h, isEmpty_of h, emp_list h⟩
    · exact .inr ⟨h, isEmpty_no h, emp_no h⟩
  have hkk : (ks.length = 0 ∧ decide ((0 : Int) < (ks.length : Int)) = false) ∨ (ks.length ≠ 0 ∧ decide ((0 : Int) < (ks.length : Int)) = true) := by
    by_cases h : ks.length = 0
    · exact .inl ⟨h, decide_eq_false (by omega)⟩
    · exact .inr ⟨h, decide_eq_true (by omega)⟩
  have hbg : (2000 < da.size ∧ decide ((2000 : Int) < (da.size : Int)) = true) ∨ (¬ 2000 < da.size ∧ decide ((2000 : Int) < (da.size : Int)) = false) := by
    by_cases h : 2000 < da.size
    · exact .inl ⟨h, decide_eq_true (by omega)⟩
    · exact .inr ⟨h, decide_eq_false (by omega)⟩
  unfold NodE
  clear ht
  rcases kindTests kd with ⟨hk, q1, q2, q3⟩ | ⟨hk, q1, q2, q3⟩ | ⟨hk, q1, q2, q3⟩ | ⟨hk, q1, q2, q3⟩
  · have e0 := hb0 (.inl hk)
    rcases hkk with ⟨k0, k1⟩ | ⟨k0, k1⟩
    · obtain rfl : ks = [] := List.eq_nil_of_length_eq_zero k0
      simp only [List.length_nil] at hB0 ht0 hbx hoe hsb hc hle ⊢
      clear k0 k1
      have hs0 : ¬ shapeB (.mk kd da ex (.slice a 0 cap) [] : Lt) = false := by rw [hsb, if_pos hk]; decide
      rcases hbg with ⟨g0, g1⟩ | ⟨g0, g1⟩
      · have HC : Hid (c = 2) := hidd (by rw [hoe, if_neg e0, if_neg hs0, if_pos (.inl g0)])
        clear hoe hsb hb0 ht0 hk hdd hbx hle e0 hs0
        go_enter Tryd.func29, Tryd.ntmps29
        go_wp2_with fail
        go_ret
        exact ⟨by rw [HC.out]; rfl, hB0⟩
      · have HC : Hid (c = 0) := hidd (by
          rw [hoe, if_neg e0, if_neg hs0, if_neg (by rintro (h | ⟨h, -⟩); exact g0 h; exact n2 (hk ▸ h)), if_neg (by rintro ⟨h, -⟩; exact n2 (hk ▸ h))]; rfl)
        clear hoe hsb hb0 hk hdd e0 hs0
        obtain ⟨WO, hWO⟩ : ∃ W : World, W = w.alloc (.cells #[.string kd, .string da, .bool ex, .slice a 0 cap] 24) := ⟨_, rfl⟩
        rw [← hWO] at hB0 ht0 hbx
        have hBB := hB0
        have y1 := hbx.cell (i := 1) rfl
        have y3 := hbx.cell (i := 3) rfl
        clear ht0
        go_enter Tryd.func29, Tryd.ntmps29
        go_wp2_with fail
        rw [← hWO]
        clear hWO
        go_loopw [6] (fun s6 wr => s6 = .int .i64 0 ∧ WO = wr) (fun _ _ => 0)
        case atStart => exact ⟨rfl, rfl⟩
        case round =>
          obtain ⟨rfl, hwo⟩ := hrel
          subst hwo
          go_wp2_with fail
          go_loopw [7, 8] (fun s7 _ wr => s7 = .int .i64 0 ∧ WO = wr) (fun _ _ _ => 0)
          case atStart => exact ⟨rfl, rfl⟩
          case round =>
            obtain ⟨rfl, hwo⟩ := hrel
            subst hwo
            go_wp2_with fail
            go_loopw [9] (fun s9 wr => s9 = .int .i64 1 ∧ WO = wr) (fun _ _ => 0)
            case atStart => exact ⟨rfl, rfl⟩
            case round =>
              obtain ⟨rfl, hwo⟩ := hrel
              subst hwo
              go_wp2_with fail
              go_ret
              exact ⟨by rw [HC.out]; rfl, hBB⟩
    · have HC : Hid (c = 3) := hidd (by rw [hoe, if_neg e0, if_pos (by rw [hsb, if_pos hk, decide_eq_false k0])])
      clear hoe hsb hb0 ht0 hk hdd hbg hbx hle e0
      go_enter Tryd.func29, Tryd.ntmps29
      go_wp2_with fail
      go_ret
      exact ⟨by rw [HC.out]; rfl, hB0⟩
  · have e0 := hb0 (.inr (.inl hk))
    have hsd : shapeB (.mk kd da ex (.slice a ks.length cap) ks : Lt) = (decide (da.size = 0) && !ex) := by rw [hsb, if_neg (by rw [hk]; exact n3), if_pos hk]
    cases ex with
    | true =>
      have hs0 : shapeB (.mk kd da true (.slice a ks.length cap) ks : Lt) = false := by rw [hsd]; simp
      have HC : Hid (c = 3) := hidd (by rw [hoe, if_neg e0, if_pos hs0])
      clear hoe hsb hb0 ht0 hk hdd hbg hbx hle e0 hs0 hkk hsd
      go_enter Tryd.func29, Tryd.ntmps29
      go_wp2_with fail
      go_ret
      exact ⟨by rw [HC.out]; rfl, hB0⟩
    | false =>
      rcases hdd with ⟨d0, d1, d2⟩ | ⟨d0, d1, d2⟩
      · have hs0 : ¬ shapeB (.mk kd da false (.slice a ks.length cap) ks : Lt) = false := by rw [hsd]; simp [d0]
        have HO5 : Hid (c = if (ks.map (·.1)).all isName = false then 5 else if rising (ks.map (·.1)) = false then 10 else 0) := hidd (by
          rw [hoe, if_neg e0, if_neg hs0, if_neg (by rintro (h | ⟨h, -⟩); omega; exact n1 (hk ▸ h)), if_neg (by rintro ⟨h, -⟩; exact n1 (hk ▸ h))])
        have g1 : decide ((2000 : Int) < (da.size : Int)) = false := decide_eq_false (by omega)
        clear hoe hsb hb0 hk e0 hs0 hsd hkk hbg
        obtain ⟨WO, hWO⟩ : ∃ W : World, W = w.alloc (.cells #[.string kd, .string da, .bool false, .slice a ks.length cap] 24) := ⟨_, rfl⟩
        rw [← hWO] at hB0 ht0 hbx
        have hBB := hB0
        have y1 := hbx.cell (i := 1) rfl
        have y3 := hbx.cell (i := 3) rfl
        go_enter Tryd.func29, Tryd.ntmps29
        go_wp2_with fail
        rw [← hWO]
        clear hWO
        go_loopw [6] (fun s6 wr => s6 = .int .i64 0 ∧ WO = wr) (fun _ _ => 0)
        case atStart => exact ⟨rfl, rfl⟩
        case round =>
          obtain ⟨rfl, hwo⟩ := hrel
          subst hwo
          go_wp2_with fail
          clear y1 y3
          go_loopw [7, 8] (fun s _ wr => ∃ k : Nat, k ≤ ks.length ∧ s = .int .i64 (k : Int) ∧ (∀ x ∈ ks.take k, isName x.1 = true) ∧ Below WO.heap.size WO wr) (fun s _ _ => ks.length - (intOf s).toNat)
          case atStart => exact ⟨0, Nat.zero_le _, rfl, by simp, Below.refl _ _⟩
          case round =>
            obtain ⟨k, hk, rfl, hall, hbel⟩ := hrel
            have hxr := (hbx.below hbel hbx.lt).cell (i := 3) rfl
            have hBr := hBB.trans (hbel.mono hBB.size)
            by_cases hlt : k < ks.length
            · have hA := ht0.ob hbel
              obtain ⟨b1, o1, rfl, hb1, a0, -⟩ := hA.at5 rfl hlt
              have hnm := hA.names _ (List.getElem_mem hlt)
              have hts := List.take_succ_eq_append_getElem hlt
              have hmm : ks[k] ∈ ks := List.getElem_mem hlt
              simp only [Tr.kids] at a0 hnm
              have p1 : (0 : Int) ≤ (k : Int) := by omega
              have p2 : (k : Int) < (ks.length : Int) := by omega
              generalize ks[k] = x at *
              obtain ⟨nx, tx⟩ := x
              simp only at a0 hnm
              have KM := hidd (fun W => isName_any nx W (by omega))
              cases hi : isName nx
              · have HC : Hid (c = 5) := hidd (by
                  rw [HO5.out, if_pos]
                  exact List.all_eq_false.2 ⟨nx, List.mem_map.2 ⟨_, hmm, rfl⟩, by rw [hi]; decide⟩)
                rw [hi] at KM
                clear hi hall hA hnm hts hmm hbx ht0
                go_wp2_with fail
                refine (KM.out _).mono ?_
                rintro e w' ⟨rfl, rfl⟩
                go_wp2_with fail
                go_ret
                exact ⟨by rw [HC.out]; rfl, hBr⟩
              · have HA : Hid (∀ x ∈ ks.take (k + 1), isName x.1 = true) := hidd (fun x hx => by
                  rw [hts] at hx
                  rcases List.mem_append.1 hx with h | h
                  · exact hall x h
                  · simp at h; subst h; exact hi)
                rw [hi] at KM
                clear hi hall hA hnm hts hmm hbx ht0
                go_wp2_with fail
                refine (KM.out _).mono ?_
                rintro e w' ⟨rfl, rfl⟩
                go_wp2_with fail
                go_roundw
                case rel => exact ⟨k + 1, by omega, by go_num, HA.out, hbel⟩
                case measure => simp [intOf]; omega
            · have hkl : k = ks.length := by omega
              have HOE : Hid (c = if rising (ks.map (·.1)) = false then 10 else 0) := hidd (by
                rw [HO5.out, if_neg]
                have : (ks.map (·.1)).all isName = true := by
                  rw [List.all_map, List.all_eq_true]
                  intro x hx
                  exact hall x (by rw [hkl, List.take_of_length_le (Nat.le_refl _)]; exact hx)
                rw [this]; decide)
              have HBL := hidd hbel
              have p5 : decide ((k : Int) < (ks.length : Int)) = false := decide_eq_false (by omega)
              have p5' : decide (k < ks.length) = false := decide_eq_false (by omega)
              clear hall hkl hbel
              go_wp2_with fail
              clear hxr hBr p5 p5' hlt HO5
              go_loopw [9] (fun t wr => ∃ k : Nat, 1 ≤ k ∧ (k ≤ ks.length ∨ k = 1) ∧ t = .int .i64 (k : Int) ∧ rising ((ks.map (·.1)).take k) = true ∧ Below WO.heap.size WO wr) (fun t _ => ks.length + 1 - (intOf t).toNat)
              case atStart => exact ⟨1, Nat.le_refl _, .inr rfl, rfl, rising_le_one (by rw [List.length_take]; omega), HBL.out⟩
              case round =>
                obtain ⟨k, hk1, hk2, rfl, hris, hbel⟩ := hrel
                have hxr := (hbx.below hbel hbx.lt).cell (i := 3) rfl
                have hBr := hBB.trans (hbel.mono hBB.size)
                by_cases hlt : k < ks.length
                · have hA := ht0.ob hbel
                  have hrt := rising_take (l := ks.map (·.1)) (k := k) hk1 (by simpa using hlt)
                  have hfr := rising_front ((ks.map (·.1)).take (k + 1)) ((ks.map (·.1)).drop (k + 1))
                  rw [List.take_append_drop] at hfr
                  obtain ⟨b1, o1, rfl, hb1, a0, -⟩ := hA.at5 rfl hlt
                  obtain ⟨b2, o2, hab, hb2, c0, -⟩ := hA.at5 rfl (i := k - 1) (by simp only [Tr.kids]; omega)
                  simp only [Option.some.injEq, Addr.mk.injEq] at hab
                  obtain ⟨rfl, rfl, -⟩ := hab
                  simp only [Tr.kids] at a0 c0
                  rw [hris, Bool.true_and, List.getElem_map, List.getElem_map] at hrt
                  have p0 : (1 : Int) ≤ (k : Int) := by omega
                  have p1 : (0 : Int) ≤ (k : Int) := by omega
                  have p2 : (k : Int) < (ks.length : Int) := by omega
                  have p3 : (0 : Int) ≤ (k : Int) - 1 := by omega
                  have p4 : (k : Int) - 1 < (ks.length : Int) := by omega
                  have hw1 : IntKind.i64.wrap ((k : Int) - 1) = (k : Int) - 1 := i64_in _ (by omega)
                  have hw2 : ((k : Int) - 1).toNat = k - 1 := by omega
                  generalize ks[k] = x at *
                  generalize ks[k - 1]'(by omega) = y at *
                  cases hl : leB x.1 y.1
                  · have hl' : (Op.bytesLess x.1.toList y.1.toList || x.1.toList == y.1.toList) = false := hl
                    rw [hl] at hrt
                    have HRT := hidd hrt
                    clear hl hrt hfr hA hris hk2 hbx ht0
                    go_wp2_with fail
                    go_quiet (fail)
                    go_wp2_with fail
                    clear hw1 hw2
                    go_roundw
                    case rel => exact ⟨k + 1, by omega, .inl (by omega), by go_num, HRT.out, by first | exact hbel | exact hbel.drew | exact hbel.trans (Below.drewN _ _ _)⟩
                    case measure => simp [intOf]; omega
                  · have hl' : (Op.bytesLess x.1.toList y.1.toList || x.1.toList == y.1.toList) = true := hl
                    rw [hl] at hrt
                    have HC : Hid (c = 10) := hidd (by
                      rw [HOE.out, if_pos]
                      cases hr : rising (ks.map (·.1)) with
                      | false => rfl
                      | true => have := hfr hr; rw [hrt] at this; cases this)
                    clear hl hrt hfr hA hris hk2 hbx ht0
                    go_wp2_with fail
                    go_quiet (fail)
                    go_wp2_with fail
                    go_ret
                    refine ⟨by rw [HC.out]; rfl, ?_⟩
                    first | exact hBr | exact hBr.drew | exact hBr.trans (Below.drewN _ _ _)
                · have HC : Hid (c = 0) := hidd (by
                    rw [HOE.out, if_neg]
                    have : rising (ks.map (·.1)) = true := by
                      by_cases h : ks.length ≤ 1
                      · exact rising_le_one (by simpa using h)
                      · rw [List.take_of_length_le (by simp; omega)] at hris; exact hris
                    rw [this]; decide)
                  have p5 : decide ((k : Int) < (ks.length : Int)) = false := decide_eq_false (by omega)
                  have p5' : decide (k < ks.length) = false := decide_eq_false (by omega)
                  clear hris hk2 hbx ht0
                  go_wp2_with fail
                  go_ret
                  exact ⟨by rw [HC.out]; rfl, hBr⟩
      · have hs0 : shapeB (.mk kd da false (.slice a ks.length cap) ks : Lt) = false := by rw [hsd]; simp [d0]
        have HC : Hid (c = 3) := hidd (by rw [hoe, if_neg e0, if_pos hs0])
        clear hoe hsb hb0 ht0 hk hbg hbx hle e0 hs0 hkk hsd
        go_enter Tryd.func29, Tryd.ntmps29
        go_wp2_with fail
        go_ret
        exact ⟨by rw [HC.out]; rfl, hB0⟩
  · have e0 := hb0 (.inr (.inr hk))
    have hsd : shapeB (.mk kd da ex (.slice a ks.length cap) ks : Lt) = (!ex && decide (ks.length = 0)) := by rw [hsb, if_neg (by rw [hk]; exact n4), if_neg (by rw [hk]; exact n5)]
    rcases hkk with ⟨k0, k1⟩ | ⟨k0, k1⟩
    · obtain rfl : ks = [] := List.eq_nil_of_length_eq_zero k0
      simp only [List.length_nil] at hB0 ht0 hbx hoe hsb hsd hc hle ⊢
      clear k0 k1
      cases ex with
      | true =>
        have hs0 : shapeB (.mk kd da true (.slice a 0 cap) [] : Lt) = false := by rw [hsd]; simp
        have HC : Hid (c = 3) := hidd (by rw [hoe, if_neg e0, if_pos hs0])
        clear hoe hsb hb0 ht0 hk hdd hbg hbx hle e0 hs0 hsd
        go_enter Tryd.func29, Tryd.ntmps29
        go_wp2_with fail
        go_ret
        exact ⟨by rw [HC.out]; rfl, hB0⟩
      | false =>
        have hs0 : ¬ shapeB (.mk kd da false (.slice a 0 cap) [] : Lt) = false := by rw [hsd]; decide
        rcases hbg with ⟨g0, g1⟩ | ⟨g0, g1⟩
        · have HC : Hid (c = 2) := hidd (by rw [hoe, if_neg e0, if_neg hs0, if_pos (.inl g0)])
          clear hoe hsb hb0 ht0 hk hdd hbx hle e0 hs0 hsd
          go_enter Tryd.func29, Tryd.ntmps29
          go_wp2_with fail
          go_ret
          exact ⟨by rw [HC.out]; rfl, hB0⟩
        · by_cases h1 : da.size < 1
          · have f1 : decide ((da.size : Int) < 1) = true := decide_eq_true (by omega)
            have HC : Hid (c = 2) := hidd (by rw [hoe, if_neg e0, if_neg hs0, if_pos (.inr ⟨hk, .inl (by omega)⟩)])
            clear hoe hsb hb0 ht0 hk hdd hbx hle e0 hs0 hsd
            go_enter Tryd.func29, Tryd.ntmps29
            go_wp2_with fail
            go_ret
            exact ⟨by rw [HC.out]; rfl, hB0⟩
          have f1 : decide ((da.size : Int) < 1) = false := decide_eq_false (by omega)
          by_cases h40 : 40 < da.size
          · have f2 : decide ((40 : Int) < (da.size : Int)) = true := decide_eq_true (by omega)
            have HC : Hid (c = 2) := hidd (by rw [hoe, if_neg e0, if_neg hs0, if_pos (.inr ⟨hk, .inr h40⟩)])
            clear hoe hsb hb0 ht0 hk hdd hbx hle e0 hs0 hsd
            go_enter Tryd.func29, Tryd.ntmps29
            go_wp2_with fail
            go_ret
            exact ⟨by rw [HC.out]; rfl, hB0⟩
          have f2 : decide ((40 : Int) < (da.size : Int)) = false := decide_eq_false (by omega)
          have HO4 : Hid (c = if linkOk da = false then 1 else 0) := hidd (by
            rw [hoe, if_neg e0, if_neg hs0, if_neg (by rintro (h | ⟨-, h | h⟩) <;> omega)]
            cases h : linkOk da with
            | false => rw [if_pos ⟨hk, rfl⟩, if_pos rfl]
            | true => rw [if_neg (by rintro ⟨-, h⟩; cases h), if_neg (by decide)]; rfl)
          clear hoe hsb hb0 hk hdd e0 hs0 hsd
          obtain ⟨WO, hWO⟩ : ∃ W : World, W = w.alloc (.cells #[.string kd, .string da, .bool false, .slice a 0 cap] 24) := ⟨_, rfl⟩
          rw [← hWO] at hB0 ht0 hbx
          have hBB := hB0
          have y1 := hbx.cell (i := 1) rfl
          have y3 := hbx.cell (i := 3) rfl
          go_enter Tryd.func29, Tryd.ntmps29
          go_wp2_with fail
          rw [← hWO]
          clear hWO
          go_loopw [6] (fun s wr => ∃ k : Nat, k ≤ da.size ∧ s = .int .i64 (k : Int) ∧ (∀ y ∈ da.data.toList.take k, plainB y = true) ∧ WO = wr) (fun s _ => da.size - (intOf s).toNat)
          case atStart => exact ⟨0, Nat.zero_le _, rfl, by simp, rfl⟩
          case round =>
            obtain ⟨k, hk, rfl, hall, hwo⟩ := hrel
            subst hwo
            by_cases hlt : k < da.size
            · have hts : da.data.toList.take (k + 1) = da.data.toList.take k ++ [da[k]] := by
                rw [List.take_succ_eq_append_getElem (by simpa using hlt)]; rfl
              have hmem : da[k] ∈ da.data.toList := by
                have : da.data.toList[k]'(by simpa using hlt) ∈ da.data.toList := List.getElem_mem _
                exact this
              have q5 : (0 : Int) ≤ (k : Int) := by omega
              have q6 : (k : Int) < (da.size : Int) := by omega
              have q7 : decide ((k : Int) < (da.size : Int)) = true := decide_eq_true (by omega)
              have q7' : decide (k < da.size) = true := decide_eq_true (by omega)
              obtain ⟨y, hy⟩ : ∃ y, da[k] = y := ⟨_, rfl⟩
              have e1 : (da[k].toNat : Int) = (y.toNat : Int) := by rw [hy]
              have hyb := y.toNat_lt
              rw [hy] at hts hmem
              have hpl : plainB y = (decide (33 ≤ y.toNat) && decide (y.toNat ≤ 126)) := by unfold plainB; simp only [UInt8.le_iff_toNat_le]; rfl
              by_cases h33 : y.toNat < 33
              · have d5 : decide ((y.toNat : Int) < 33) = true := decide_eq_true (by omega)
                have HC : Hid (c = 1) := hidd (by rw [HO4.out, if_pos]; unfold linkOk; exact List.all_eq_false.2 ⟨y, hmem, by rw [hpl, decide_eq_false (by omega)]; simp⟩)
                clear hall hts hmem hy hpl hbx ht0
                go_wp2_with fail
                go_ret
                exact ⟨by rw [HC.out]; rfl, hBB⟩
              have d5 : decide ((y.toNat : Int) < 33) = false := decide_eq_false (by omega)
              by_cases h126 : 126 < y.toNat
              · have d6 : decide ((126 : Int) < (y.toNat : Int)) = true := decide_eq_true (by omega)
                have HC : Hid (c = 1) := hidd (by rw [HO4.out, if_pos]; unfold linkOk; exact List.all_eq_false.2 ⟨y, hmem, by rw [hpl, decide_eq_false (p := y.toNat ≤ 126) (by omega), Bool.and_false]; simp⟩)
                clear hall hts hmem hy hpl hbx ht0
                go_wp2_with fail
                go_ret
                exact ⟨by rw [HC.out]; rfl, hBB⟩
              have d6 : decide ((126 : Int) < (y.toNat : Int)) = false := decide_eq_false (by omega)
              have HA : Hid (∀ z ∈ da.data.toList.take (k + 1), plainB z = true) := hidd (fun z hz => by
                rw [hts] at hz
                rcases List.mem_append.1 hz with h | h
                · exact hall z h
                · simp at h; subst h; rw [hpl, decide_eq_true (by omega), decide_eq_true (by omega)]; rfl)
              clear hall hts hmem hy hpl hbx ht0
              go_wp2_with fail
              go_roundw
              case rel => exact ⟨k + 1, by omega, by go_num, HA.out, trivial⟩
              case measure => simp [intOf]; omega
            · have hkl : k = da.size := by omega
              have HC : Hid (c = 0) := hidd (by
                rw [HO4.out, if_neg]
                have : linkOk da = true := by
                  unfold linkOk
                  rw [List.all_eq_true]
                  intro y hy
                  exact hall y (by rw [hkl, List.take_of_length_le (by simp)]; exact hy)
                rw [this]; decide)
              have q7 : decide ((k : Int) < (da.size : Int)) = false := decide_eq_false (by omega)
              have q7' : decide (k < da.size) = false := decide_eq_false (by omega)
              clear hall hkl hbx ht0
              go_wp2_with fail
              clear q7 q7' hlt
              go_loopw [7, 8] (fun s7 _ wr => s7 = .int .i64 0 ∧ WO = wr) (fun _ _ _ => 0)
              case atStart => exact ⟨rfl, rfl⟩
              case round =>
                obtain ⟨rfl, hwo⟩ := hrel
                subst hwo
                go_wp2_with fail
                go_loopw [9] (fun s9 wr => s9 = .int .i64 1 ∧ WO = wr) (fun _ _ => 0)
                case atStart => exact ⟨rfl, rfl⟩
                case round =>
                  obtain ⟨rfl, hwo⟩ := hrel
                  subst hwo
                  go_wp2_with fail
                  go_ret
                  exact ⟨by rw [HC.out]; rfl, hBB⟩
    · have hs0 : shapeB (.mk kd da ex (.slice a ks.length cap) ks : Lt) = false := by rw [hsd]; simp [k0]
      have HC : Hid (c = 3) := hidd (by rw [hoe, if_neg e0, if_pos hs0])
      clear hoe hsb hb0 ht0 hk hdd hbg hbx hle e0 hs0 hsd
      go_enter Tryd.func29, Tryd.ntmps29
      go_wp2_with fail
      go_ret
      exact ⟨by rw [HC.out]; rfl, hB0⟩
  · have HC : Hid (c = 4) := hidd (by rw [hoe, if_pos (by rintro (h | h | h); exact hk.1 h; exact hk.2.1 h; exact hk.2.2 h)])
    clear hoe hsb hb0 ht0 hk hkk hdd hbg hbx hle
    go_enter Tryd.func29, Tryd.ntmps29
    go_wp2_with fail
    go_ret
    exact ⟨by rw [HC.out]; rfl, hB0⟩
end Go.Proofs.YtccplkbbaodpeaaDoor
