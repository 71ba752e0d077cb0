/- The reference's list of a right tree's nodes, its paths mended; a cell of an owned row set. No condition. · The contract of the reference's nodeError. Condition: the node is there. · The contract of the reference's TreeError. Condition: the tree is there. · The contracts of the reference's ItemsOf, CountOf, SizeOf and FilesOf. Condition: the tree is there. -/
import Derived.Test.YtoaedkinlnkkhaaGreatDoorTrFU
import Derived.Test.YtoaedkinlnkkhaaGreatDoorTrG
import Derived.Test.YtoaedkinlnkkhaaGreatDoorTrC
namespace Go.Proofs.YtoaedkinlnkkhaaGreatDoor
open Go.RowKit

section
variable {F : Nat → Prop} {w : World} {e : TypeId} {size : Nat} {n : Nat} {xs : List Value}
theorem Ow.put {g off cap j : Nat} (h : Ow F w e size (.slice (some ⟨g, off, none⟩) n cap) n xs) (_hj : j < xs.length) (u : Value) :
    Ow F (w.setCell ⟨g, off + j, none⟩ u) e size (.slice (some ⟨g, off, none⟩) n cap) n (xs.set j u) := by
  rcases h.2 with ⟨he, hn⟩ | ⟨g', off', cap', cur, he, hb, hg, hnc, hm, hsz, ht⟩
  · cases he
  simp only [Value.slice.injEq, Option.some.injEq, Addr.mk.injEq] at he
  obtain ⟨⟨rfl, rfl, -⟩, -, rfl⟩ := he
  have hl := h.1
  have h1 : (w.setCell ⟨g, off + j, none⟩ u).heap[g]? = some (.cells (cur.setIfInBounds (off + j) u) e (0, 0)) := by simp [World.setCell, Array.getElem?_modify, hg]
  refine ⟨by simpa using hl, .inr ⟨g, off, cap, _, rfl, hb, h1, hnc, hm, by simpa using hsz, ?_⟩⟩
  rw [← ht, Array.toList_setIfInBounds, List.drop_set, if_neg (by omega), Nat.add_sub_cancel_left, List.take_set]
theorem Ow.frozen {g off cap : Nat} (h : Ow F w e size (.slice (some ⟨g, off, none⟩) n cap) n xs) (i : Nat) : w.frozen? ⟨g, i, none⟩ = false := by
  rcases h.2 with ⟨he, _⟩ | ⟨g', off', cap', cur, he, _, hg, _⟩
  · cases he
  · simp only [Value.slice.injEq, Option.some.injEq, Addr.mk.injEq] at he
    obtain ⟨⟨rfl, _⟩, _⟩ := he
    simp [World.frozen?, hg]
end

variable {α : Type}
def fixP (p : ByteArray) : ByteArray := if p.toList == [] then ⟨#[47]⟩ else p
def It.fix (x : It α) : It α := ⟨fixP x.path, x.deep, x.n⟩
/-- Empty, or from a stroke on. -/
def Stroke (p : ByteArray) : Prop := p.data.toList = [] ∨ ∃ r, p.data.toList = 47 :: r
theorem stroke_sub {p n : ByteArray} (h : Stroke p) : Stroke (sub p n) := by
  unfold sub
  have e : (p ++ ⟨#[47]⟩ ++ n).data.toList = p.data.toList ++ [47] ++ n.data.toList := by simp
  rcases h with h | ⟨r, h⟩
  · exact .inr ⟨n.data.toList, by rw [e, h]; rfl⟩
  · exact .inr ⟨r ++ [47] ++ n.data.toList, by rw [e, h]; rfl⟩
mutual
theorem pre_stroke (p : ByteArray) (d : Nat) (hp : Stroke p) : ∀ t : Tr α, ∀ x ∈ pre p d t, Stroke x.path
  | .mk k da e v ks => fun x hx => by
    rw [pre] at hx
    rcases List.mem_cons.1 hx with rfl | hx
    · exact hp
    · exact pres_stroke p (d + 1) hp ks x hx
theorem pres_stroke (p : ByteArray) (d : Nat) (hp : Stroke p) : ∀ ks : List (ByteArray × Tr α), ∀ x ∈ pres p d ks, Stroke x.path
  | [] => fun x hx => by simp [pres] at hx
  | (n, t) :: r => fun x hx => by
    rw [pres] at hx
    rcases List.mem_append.1 hx with hx | hx
    · exact pre_stroke (sub p n) d (stroke_sub hp) t x hx
    · exact pres_stroke p d hp r x hx
end
theorem path_fix {p : ByteArray} (h : Stroke p) : pathOf p = fixP p := by
  unfold pathOf fixP Lib.maxS
  rw [Lib.toList_data]
  rcases h with h | ⟨r, h⟩
  · rw [h]; simp
  · rw [h]
    rw [if_neg (by simp), if_neg (by simp)]
/-- Items of a right tree. -/
def itemsOf (t : Tr α) : List (It α) := (pre ⟨#[]⟩ 0 t).map It.fix
theorem itemsOf_len (t : Tr α) : (itemsOf t).length = t.sz := by unfold itemsOf; rw [List.length_map, pre_len]
/-- A path set in a row of items. -/
theorem itcells_set (a b : List (It Value)) (x : It Value) (p : ByteArray) : (itcells (a ++ x :: b)).set (a.length * 6) (.string p) = itcells (a ++ ⟨p, x.deep, x.n⟩ :: b) := by
  have hl := itcells_len a
  have e1 : itcells (a ++ x :: b) = itcells a ++ (tcell x ++ itcells b) := by simp [itcells]
  have e2 : itcells (a ++ (⟨p, x.deep, x.n⟩ : It Value) :: b) = itcells a ++ (tcell ⟨p, x.deep, x.n⟩ ++ itcells b) := by simp [itcells]
  rw [e1, e2, ← hl, List.set_append_right _ _ (Nat.le_refl _), Nat.sub_self]
  rfl
/-- The head of what a scan still has to look at. -/
theorem scan_at {l : List (It α)} {i : Nat} (hi : i < l.length) (h : scan 0 (l.take i) = 0) :
    scan 0 l = (if 8 < l[i].deep then 9 else if 200 ≤ i then 8 else if 0 < ownE l[i].n then ownE l[i].n else scan (i + 1) (l.drop (i + 1))) ∧
    (¬ 8 < l[i].deep → ¬ 200 ≤ i → ¬ 0 < ownE l[i].n → scan 0 (l.take (i + 1)) = 0) := by
  have e : l = l.take i ++ l[i] :: l.drop (i + 1) := by rw [List.getElem_cons_drop, List.take_append_drop]
  have hl : (l.take i).length = i := by rw [List.length_take]; omega
  constructor
  · have := scan_app (l.take i) (l[i] :: l.drop (i + 1)) 0
    rw [← e, if_pos h, Nat.zero_add, hl] at this
    rw [this, scan]
  · intro h1 h2 h3
    rw [List.take_succ_eq_append_getElem hi, scan_app, if_pos h, Nat.zero_add, hl, scan, if_neg h1, if_neg h2, if_neg h3]; rfl
end Go.Proofs.YtoaedkinlnkkhaaGreatDoor

namespace Go.Proofs.YtoaedkinlnkkhaaGreatDoor
open Go.RowKit Go.Shelf

def NodE (c : Nat) (w : World) (e : Ending) (w' : World) : Prop := e = .returned (.int .i64 (c : Int)) ∧ Below w.heap.size w w'

set_option maxRecDepth 100000 in
set_option maxHeartbeats 40000000 in
theorem nodeErr_any (t : Lt) (w : World) (ht : t.Ok w) : Calls Tryz.prog 45 #[nval t] w (NodE (ownE t) w) := by
  obtain ⟨a, cap, hv⟩ := ht.shape
  have hle := ht.le
  obtain ⟨kd, da, ex, v, ks⟩ := t
  simp only [Tr.v, Tr.kids] at hv hle
  subst hv
  have hB0 : Below w.heap.size w (w.alloc (.cells #[.string kd, .string da, .bool ex, .slice a ks.length cap] 24)) := (Below.refl _ _).alloc (Nat.le_refl _) _
  have ht0 := ht.ob hB0
  have hbx := Blk.new w [.string kd, .string da, .bool ex, .slice a ks.length cap] 24
  have hoe : ownE (.mk kd da ex (.slice a ks.length cap) ks : Lt) = if ¬ (kd = kFile ∨ kd = kDir ∨ kd = kLink) then 4 else if shapeB (.mk kd da ex (.slice a ks.length cap) ks : Lt) = false then 3
      else if 2000 < da.size ∨ (kd = kLink ∧ (da.size = 0 ∨ 40 < da.size)) then 2 else if kd = kLink ∧ linkOk da = false then 1
      else if (ks.map (·.1)).all isName = false then 5 else if rising (ks.map (·.1)) = false then 10 else 0 := rfl
  have hsb : shapeB (.mk kd da ex (.slice a ks.length cap) ks : Lt) = if kd = kFile then decide (ks.length = 0) else if kd = kDir then decide (da.size = 0) && !ex else !ex && decide (ks.length = 0) := rfl
  obtain ⟨c, hc⟩ : ∃ c, ownE (.mk kd da ex (.slice a ks.length cap) ks : Lt) = c := ⟨_, rfl⟩
  rw [hc] at hoe ⊢
  have n1 : ¬ kDir = kLink := by decide
  have n2 : ¬ kFile = kLink := by decide
  have n3 : ¬ kDir = kFile := by decide
  have n4 : ¬ kLink = kFile := by decide
  have n5 : ¬ kLink = kDir := by decide
  unfold nval
  simp only [Tr.kind, Tr.data, Tr.exec, Tr.v]
  have hb0 : kd = kFile ∨ kd = kDir ∨ kd = kLink → ¬ ¬ (kd = kFile ∨ kd = kDir ∨ kd = kLink) := fun h => not_not_intro h
  have hdd : (da.size = 0 ∧ da.toList.isEmpty = true ∧ da.toList = []) ∨ (da.size ≠ 0 ∧ da.toList.isEmpty = false ∧ (da.toList == []) = false) := by
    by_cases h : da.size = 0
    · exact .inl ⟨h, isEmpty_of h, emp_list h⟩
    · exact .inr ⟨h, isEmpty_no h, emp_no h⟩
  have hkk : (ks.length = 0 ∧ decide ((0 : Int) < (ks.length : Int)) = false) ∨ (ks.length ≠ 0 ∧ decide ((0 : Int) < (ks.length : Int)) = true) := by
    by_cases h : ks.length = 0
    · exact .inl ⟨h, decide_eq_false (by omega)⟩
    · exact .inr ⟨h, decide_eq_true (by omega)⟩
  have hbg : (2000 < da.size ∧ decide ((2000 : Int) < (da.size : Int)) = true) ∨ (¬ 2000 < da.size ∧ decide ((2000 : Int) < (da.size : Int)) = false) := by
    by_cases h : 2000 < da.size
    · exact .inl ⟨h, decide_eq_true (by omega)⟩
    · exact .inr ⟨h, decide_eq_false (by omega)⟩
  unfold NodE
  clear ht
  rcases kindTests kd with ⟨hk, q1, q2, q3⟩ | ⟨hk, q1, q2, q3⟩ | ⟨hk, q1, q2, q3⟩ | ⟨hk, q1, q2, q3⟩
  · have e0 := hb0 (.inl hk)
    rcases hkk with ⟨k0, k1⟩ | ⟨k0, k1⟩
    · obtain rfl : ks = [] := List.eq_nil_of_length_eq_zero k0
      simp only [List.length_nil] at hB0 ht0 hbx hoe hsb hc hle ⊢
      clear k0 k1
      have hs0 : ¬ shapeB (.mk kd da ex (.slice a 0 cap) [] : Lt) = false := by rw [hsb, if_pos hk]; decide
      rcases hbg with ⟨g0, g1⟩ | ⟨g0, g1⟩
      · have HC : Hid (c = 2) := hidd (by rw [hoe, if_neg e0, if_neg hs0, if_pos (.inl g0)])
        clear hoe hsb hb0 ht0 hk hdd hbx hle e0 hs0
        go_enter Tryz.func45, Tryz.ntmps45
        go_wp2_with fail
        go_ret
        exact ⟨by rw [HC.out]; rfl, hB0⟩
      · have HC : Hid (c = 0) := hidd (by
          rw [hoe, if_neg e0, if_neg hs0, if_neg (by rintro (h | ⟨h, -⟩); exact g0 h; exact n2 (hk ▸ h)), if_neg (by rintro ⟨h, -⟩; exact n2 (hk ▸ h))]; rfl)
        clear hoe hsb hb0 hk hdd e0 hs0
        obtain ⟨WO, hWO⟩ : ∃ W : World, W = w.alloc (.cells #[.string kd, .string da, .bool ex, .slice a 0 cap] 24) := ⟨_, rfl⟩
        rw [← hWO] at hB0 ht0 hbx
        have hBB := hB0
        have y1 := hbx.cell (i := 1) rfl
        have y3 := hbx.cell (i := 3) rfl
        clear ht0
        go_enter Tryz.func45, Tryz.ntmps45
        go_wp2_with fail
        rw [← hWO]
        clear hWO
        go_loopw [6] (fun s6 wr => s6 = .int .i64 0 ∧ WO = wr) (fun _ _ => 0)
        case atStart => exact ⟨rfl, rfl⟩
        case round =>
          obtain ⟨rfl, hwo⟩ := hrel
          subst hwo
          go_wp2_with fail
          go_loopw [7, 8] (fun s7 _ wr => s7 = .int .i64 0 ∧ WO = wr) (fun _ _ _ => 0)
          case atStart => exact ⟨rfl, rfl⟩
          case round =>
            obtain ⟨rfl, hwo⟩ := hrel
            subst hwo
            go_wp2_with fail
            go_loopw [9] (fun s9 wr => s9 = .int .i64 1 ∧ WO = wr) (fun _ _ => 0)
            case atStart => exact ⟨rfl, rfl⟩
            case round =>
              obtain ⟨rfl, hwo⟩ := hrel
              subst hwo
              go_wp2_with fail
              go_ret
              exact ⟨by rw [HC.out]; rfl, hBB⟩
    · have HC : Hid (c = 3) := hidd (by rw [hoe, if_neg e0, if_pos (by rw [hsb, if_pos hk, decide_eq_false k0])])
      clear hoe hsb hb0 ht0 hk hdd hbg hbx hle e0
      go_enter Tryz.func45, Tryz.ntmps45
      go_wp2_with fail
      go_ret
      exact ⟨by rw [HC.out]; rfl, hB0⟩
  · have e0 := hb0 (.inr (.inl hk))
    have hsd : shapeB (.mk kd da ex (.slice a ks.length cap) ks : Lt) = (decide (da.size = 0) && !ex) := by rw [hsb, if_neg (by rw [hk]; exact n3), if_pos hk]
    cases ex with
    | true =>
      have hs0 : shapeB (.mk kd da true (.slice a ks.length cap) ks : Lt) = false := by rw [hsd]; simp
      have HC : Hid (c = 3) := hidd (by rw [hoe, if_neg e0, if_pos hs0])
      clear hoe hsb hb0 ht0 hk hdd hbg hbx hle e0 hs0 hkk hsd
      go_enter Tryz.func45, Tryz.ntmps45
      go_wp2_with fail
      go_ret
      exact ⟨by rw [HC.out]; rfl, hB0⟩
    | false =>
      rcases hdd with ⟨d0, d1, d2⟩ | ⟨d0, d1, d2⟩
      · have hs0 : ¬ shapeB (.mk kd da false (.slice a ks.length cap) ks : Lt) = false := by rw [hsd]; simp [d0]
        have HO5 : Hid (c = if (ks.map (·.1)).all isName = false then 5 else if rising (ks.map (·.1)) = false then 10 else 0) := hidd (by
          rw [hoe, if_neg e0, if_neg hs0, if_neg (by rintro (h | ⟨h, -⟩); omega; exact n1 (hk ▸ h)), if_neg (by rintro ⟨h, -⟩; exact n1 (hk ▸ h))])
        have g1 : decide ((2000 : Int) < (da.size : Int)) = false := decide_eq_false (by omega)
        clear hoe hsb hb0 hk e0 hs0 hsd hkk hbg
        obtain ⟨WO, hWO⟩ : ∃ W : World, W = w.alloc (.cells #[.string kd, .string da, .bool false, .slice a ks.length cap] 24) := ⟨_, rfl⟩
        rw [← hWO] at hB0 ht0 hbx
        have hBB := hB0
        have y1 := hbx.cell (i := 1) rfl
        have y3 := hbx.cell (i := 3) rfl
        go_enter Tryz.func45, Tryz.ntmps45
        go_wp2_with fail
        rw [← hWO]
        clear hWO
        go_loopw [6] (fun s6 wr => s6 = .int .i64 0 ∧ WO = wr) (fun _ _ => 0)
        case atStart => exact ⟨rfl, rfl⟩
        case round =>
          obtain ⟨rfl, hwo⟩ := hrel
          subst hwo
          go_wp2_with fail
          clear y1 y3
          go_loopw [7, 8] (fun s _ wr => ∃ k : Nat, k ≤ ks.length ∧ s = .int .i64 (k : Int) ∧ (∀ x ∈ ks.take k, isName x.1 = true) ∧ Below WO.heap.size WO wr) (fun s _ _ => ks.length - (intOf s).toNat)
          case atStart => exact ⟨0, Nat.zero_le _, rfl, by simp, Below.refl _ _⟩
          case round =>
            obtain ⟨k, hk, rfl, hall, hbel⟩ := hrel
            have hxr := (hbx.below hbel hbx.lt).cell (i := 3) rfl
            have hBr := hBB.trans (hbel.mono hBB.size)
            by_cases hlt : k < ks.length
            · have hA := ht0.ob hbel
              obtain ⟨b1, o1, rfl, hb1, a0, -⟩ := hA.at5 rfl hlt
              have hnm := hA.names _ (List.getElem_mem hlt)
              have hts := List.take_succ_eq_append_getElem hlt
              have hmm : ks[k] ∈ ks := List.getElem_mem hlt
              simp only [Tr.kids] at a0 hnm
              have p1 : (0 : Int) ≤ (k : Int) := by omega
              have p2 : (k : Int) < (ks.length : Int) := by omega
              generalize ks[k] = x at *
              obtain ⟨nx, tx⟩ := x
              simp only at a0 hnm
              have KM := hidd (fun W => isName_any nx W (by omega))
              cases hi : isName nx
              · have HC : Hid (c = 5) := hidd (by
                  rw [HO5.out, if_pos]
                  exact List.all_eq_false.2 ⟨nx, List.mem_map.2 ⟨_, hmm, rfl⟩, by rw [hi]; decide⟩)
                rw [hi] at KM
                clear hi hall hA hnm hts hmm hbx ht0
                go_wp2_with fail
                refine (KM.out _).mono ?_
                rintro e w' ⟨rfl, rfl⟩
                go_wp2_with fail
                go_ret
                exact ⟨by rw [HC.out]; rfl, hBr⟩
              · have HA : Hid (∀ x ∈ ks.take (k + 1), isName x.1 = true) := hidd (fun x hx => by
                  rw [hts] at hx
                  rcases List.mem_append.1 hx with h | h
                  · exact hall x h
                  · simp at h; subst h; exact hi)
                rw [hi] at KM
                clear hi hall hA hnm hts hmm hbx ht0
                go_wp2_with fail
                refine (KM.out _).mono ?_
                rintro e w' ⟨rfl, rfl⟩
                go_wp2_with fail
                go_roundw
                case rel => exact ⟨k + 1, by omega, by go_num, HA.out, hbel⟩
                case measure => simp [intOf]; omega
            · have hkl : k = ks.length := by omega
              have HOE : Hid (c = if rising (ks.map (·.1)) = false then 10 else 0) := hidd (by
                rw [HO5.out, if_neg]
                have : (ks.map (·.1)).all isName = true := by
                  rw [List.all_map, List.all_eq_true]
                  intro x hx
                  exact hall x (by rw [hkl, List.take_of_length_le (Nat.le_refl _)]; exact hx)
                rw [this]; decide)
              have HBL := hidd hbel
              have p5 : decide ((k : Int) < (ks.length : Int)) = false := decide_eq_false (by omega)
              have p5' : decide (k < ks.length) = false := decide_eq_false (by omega)
              clear hall hkl hbel
              go_wp2_with fail
              clear hxr hBr p5 p5' hlt HO5
              go_loopw [9] (fun t wr => ∃ k : Nat, 1 ≤ k ∧ (k ≤ ks.length ∨ k = 1) ∧ t = .int .i64 (k : Int) ∧ rising ((ks.map (·.1)).take k) = true ∧ Below WO.heap.size WO wr) (fun t _ => ks.length + 1 - (intOf t).toNat)
              case atStart => exact ⟨1, Nat.le_refl _, .inr rfl, rfl, rising_le_one (by rw [List.length_take]; omega), HBL.out⟩
              case round =>
                obtain ⟨k, hk1, hk2, rfl, hris, hbel⟩ := hrel
                have hxr := (hbx.below hbel hbx.lt).cell (i := 3) rfl
                have hBr := hBB.trans (hbel.mono hBB.size)
                by_cases hlt : k < ks.length
                · have hA := ht0.ob hbel
                  have hrt := rising_take (l := ks.map (·.1)) (k := k) hk1 (by simpa using hlt)
                  have hfr := rising_front ((ks.map (·.1)).take (k + 1)) ((ks.map (·.1)).drop (k + 1))
                  rw [List.take_append_drop] at hfr
                  obtain ⟨b1, o1, rfl, hb1, a0, -⟩ := hA.at5 rfl hlt
                  obtain ⟨b2, o2, hab, hb2, c0, -⟩ := hA.at5 rfl (i := k - 1) (by simp only [Tr.kids]; omega)
                  simp only [Option.some.injEq, Addr.mk.injEq] at hab
                  obtain ⟨rfl, rfl, -⟩ := hab
                  simp only [Tr.kids] at a0 c0
                  rw [hris, Bool.true_and, List.getElem_map, List.getElem_map] at hrt
                  have p0 : (1 : Int) ≤ (k : Int) := by omega
                  have p1 : (0 : Int) ≤ (k : Int) := by omega
                  have p2 : (k : Int) < (ks.length : Int) := by omega
                  have p3 : (0 : Int) ≤ (k : Int) - 1 := by omega
                  have p4 : (k : Int) - 1 < (ks.length : Int) := by omega
                  have hw1 : IntKind.i64.wrap ((k : Int) - 1) = (k : Int) - 1 := i64_in _ (by omega)
                  have hw2 : ((k : Int) - 1).toNat = k - 1 := by omega
                  generalize ks[k] = x at *
                  generalize ks[k - 1]'(by omega) = y at *
                  cases hl : leB x.1 y.1
                  · have hl' : (Op.bytesLess x.1.toList y.1.toList || x.1.toList == y.1.toList) = false := hl
                    rw [hl] at hrt
                    have HRT := hidd hrt
                    clear hl hrt hfr hA hris hk2 hbx ht0
                    go_wp2_with fail
                    go_quiet (fail)
                    go_wp2_with fail
                    clear hw1 hw2
                    go_roundw
                    case rel => exact ⟨k + 1, by omega, .inl (by omega), by go_num, HRT.out, by first | exact hbel | exact hbel.drew | exact hbel.trans (Below.drewN _ _ _)⟩
                    case measure => simp [intOf]; omega
                  · have hl' : (Op.bytesLess x.1.toList y.1.toList || x.1.toList == y.1.toList) = true := hl
                    rw [hl] at hrt
                    have HC : Hid (c = 10) := hidd (by
                      rw [HOE.out, if_pos]
                      cases hr : rising (ks.map (·.1)) with
                      | false => rfl
                      | true => have := hfr hr; rw [hrt] at this; cases this)
                    clear hl hrt hfr hA hris hk2 hbx ht0
                    go_wp2_with fail
                    go_quiet (fail)
                    go_wp2_with fail
                    go_ret
                    refine ⟨by rw [HC.out]; rfl, ?_⟩
                    first | exact hBr | exact hBr.drew | exact hBr.trans (Below.drewN _ _ _)
                · have HC : Hid (c = 0) := hidd (by
                    rw [HOE.out, if_neg]
                    have : rising (ks.map (·.1)) = true := by
                      by_cases h : ks.length ≤ 1
                      · exact rising_le_one (by simpa using h)
                      · rw [List.take_of_length_le (by simp; omega)] at hris; exact hris
                    rw [this]; decide)
                  have p5 : decide ((k : Int) < (ks.length : Int)) = false := decide_eq_false (by omega)
                  have p5' : decide (k < ks.length) = false := decide_eq_false (by omega)
                  clear hris hk2 hbx ht0
                  go_wp2_with fail
                  go_ret
                  exact ⟨by rw [HC.out]; rfl, hBr⟩
      · have hs0 : shapeB (.mk kd da false (.slice a ks.length cap) ks : Lt) = false := by rw [hsd]; simp [d0]
        have HC : Hid (c = 3) := hidd (by rw [hoe, if_neg e0, if_pos hs0])
        clear hoe hsb hb0 ht0 hk hbg hbx hle e0 hs0 hkk hsd
        go_enter Tryz.func45, Tryz.ntmps45
        go_wp2_with fail
        go_ret
        exact ⟨by rw [HC.out]; rfl, hB0⟩
  · have e0 := hb0 (.inr (.inr hk))
    have hsd : shapeB (.mk kd da ex (.slice a ks.length cap) ks : Lt) = (!ex && decide (ks.length = 0)) := by rw [hsb, if_neg (by rw [hk]; exact n4), if_neg (by rw [hk]; exact n5)]
    rcases hkk with ⟨k0, k1⟩ | ⟨k0, k1⟩
    · obtain rfl : ks = [] := List.eq_nil_of_length_eq_zero k0
      simp only [List.length_nil] at hB0 ht0 hbx hoe hsb hsd hc hle ⊢
      clear k0 k1
      cases ex with
      | true =>
        have hs0 : shapeB (.mk kd da true (.slice a 0 cap) [] : Lt) = false := by rw [hsd]; simp
        have HC : Hid (c = 3) := hidd (by rw [hoe, if_neg e0, if_pos hs0])
        clear hoe hsb hb0 ht0 hk hdd hbg hbx hle e0 hs0 hsd
        go_enter Tryz.func45, Tryz.ntmps45
        go_wp2_with fail
        go_ret
        exact ⟨by rw [HC.out]; rfl, hB0⟩
      | false =>
        have hs0 : ¬ shapeB (.mk kd da false (.slice a 0 cap) [] : Lt) = false := by rw [hsd]; decide
        rcases hbg with ⟨g0, g1⟩ | ⟨g0, g1⟩
        · have HC : Hid (c = 2) := hidd (by rw [hoe, if_neg e0, if_neg hs0, if_pos (.inl g0)])
          clear hoe hsb hb0 ht0 hk hdd hbx hle e0 hs0 hsd
          go_enter Tryz.func45, Tryz.ntmps45
          go_wp2_with fail
          go_ret
          exact ⟨by rw [HC.out]; rfl, hB0⟩
        · by_cases h1 : da.size < 1
          · have f1 : decide ((da.size : Int) < 1) = true := decide_eq_true (by omega)
            have HC : Hid (c = 2) := hidd (by rw [hoe, if_neg e0, if_neg hs0, if_pos (.inr ⟨hk, .inl (by omega)⟩)])
            clear hoe hsb hb0 ht0 hk hdd hbx hle e0 hs0 hsd
            go_enter Tryz.func45, Tryz.ntmps45
            go_wp2_with fail
            go_ret
            exact ⟨by rw [HC.out]; rfl, hB0⟩
          have f1 : decide ((da.size : Int) < 1) = false := decide_eq_false (by omega)
          by_cases h40 : 40 < da.size
          · have f2 : decide ((40 : Int) < (da.size : Int)) = true := decide_eq_true (by omega)
            have HC : Hid (c = 2) := hidd (by rw [hoe, if_neg e0, if_neg hs0, if_pos (.inr ⟨hk, .inr h40⟩)])
            clear hoe hsb hb0 ht0 hk hdd hbx hle e0 hs0 hsd
            go_enter Tryz.func45, Tryz.ntmps45
            go_wp2_with fail
            go_ret
            exact ⟨by rw [HC.out]; rfl, hB0⟩
          have f2 : decide ((40 : Int) < (da.size : Int)) = false := decide_eq_false (by omega)
          have HO4 : Hid (c = if linkOk da = false then 1 else 0) := hidd (by
            rw [hoe, if_neg e0, if_neg hs0, if_neg (by rintro (h | ⟨-, h | h⟩) <;> omega)]
            cases h : linkOk da with
            | false => rw [if_pos ⟨hk, rfl⟩, if_pos rfl]
            | true => rw [if_neg (by rintro ⟨-, h⟩; cases h), if_neg (by decide)]; rfl)
          clear hoe hsb hb0 hk hdd e0 hs0 hsd
          obtain ⟨WO, hWO⟩ : ∃ W : World, W = w.alloc (.cells #[.string kd, .string da, .bool false, .slice a 0 cap] 24) := ⟨_, rfl⟩
          rw [← hWO] at hB0 ht0 hbx
          have hBB := hB0
          have y1 := hbx.cell (i := 1) rfl
          have y3 := hbx.cell (i := 3) rfl
          go_enter Tryz.func45, Tryz.ntmps45
          go_wp2_with fail
          rw [← hWO]
          clear hWO
          go_loopw [6] (fun s wr => ∃ k : Nat, k ≤ da.size ∧ s = .int .i64 (k : Int) ∧ (∀ y ∈ da.data.toList.take k, plainB y = true) ∧ WO = wr) (fun s _ => da.size - (intOf s).toNat)
          case atStart => exact ⟨0, Nat.zero_le _, rfl, by simp, rfl⟩
          case round =>
            obtain ⟨k, hk, rfl, hall, hwo⟩ := hrel
            subst hwo
            by_cases hlt : k < da.size
            · have hts : da.data.toList.take (k + 1) = da.data.toList.take k ++ [da[k]] := by
                rw [List.take_succ_eq_append_getElem (by simpa using hlt)]; rfl
              have hmem : da[k] ∈ da.data.toList := by
                have : da.data.toList[k]'(by simpa using hlt) ∈ da.data.toList := List.getElem_mem _
                exact this
              have q5 : (0 : Int) ≤ (k : Int) := by omega
              have q6 : (k : Int) < (da.size : Int) := by omega
              have q7 : decide ((k : Int) < (da.size : Int)) = true := decide_eq_true (by omega)
              have q7' : decide (k < da.size) = true := decide_eq_true (by omega)
              obtain ⟨y, hy⟩ : ∃ y, da[k] = y := ⟨_, rfl⟩
              have e1 : (da[k].toNat : Int) = (y.toNat : Int) := by rw [hy]
              have hyb := y.toNat_lt
              rw [hy] at hts hmem
              have hpl : plainB y = (decide (33 ≤ y.toNat) && decide (y.toNat ≤ 126)) := by unfold plainB; simp only [UInt8.le_iff_toNat_le]; rfl
              by_cases h33 : y.toNat < 33
              · have d5 : decide ((y.toNat : Int) < 33) = true := decide_eq_true (by omega)
                have HC : Hid (c = 1) := hidd (by rw [HO4.out, if_pos]; unfold linkOk; exact List.all_eq_false.2 ⟨y, hmem, by rw [hpl, decide_eq_false (by omega)]; simp⟩)
                clear hall hts hmem hy hpl hbx ht0
                go_wp2_with fail
                go_ret
                exact ⟨by rw [HC.out]; rfl, hBB⟩
              have d5 : decide ((y.toNat : Int) < 33) = false := decide_eq_false (by omega)
              by_cases h126 : 126 < y.toNat
              · have d6 : decide ((126 : Int) < (y.toNat : Int)) = true := decide_eq_true (by omega)
                have HC : Hid (c = 1) := hidd (by rw [HO4.out, if_pos]; unfold linkOk; exact List.all_eq_false.2 ⟨y, hmem, by rw [hpl, decide_eq_false (p := y.toNat ≤ 126) (by omega), Bool.and_false]; simp⟩)
                clear hall hts hmem hy hpl hbx ht0
                go_wp2_with fail
                go_ret
                exact ⟨by rw [HC.out]; rfl, hBB⟩
              have d6 : decide ((126 : Int) < (y.toNat : Int)) = false := decide_eq_false (by omega)
              have HA : Hid (∀ z ∈ da.data.toList.take (k + 1), plainB z = true) := hidd (fun z hz => by
                rw [hts] at hz
                rcases List.mem_append.1 hz with h | h
                · exact hall z h
                · simp at h; subst h; rw [hpl, decide_eq_true (by omega), decide_eq_true (by omega)]; rfl)
              clear hall hts hmem hy hpl hbx ht0
              go_wp2_with fail
              go_roundw
              case rel => exact ⟨k + 1, by omega, by go_num, HA.out, trivial⟩
              case measure => simp [intOf]; omega
            · have hkl : k = da.size := by omega
              have HC : Hid (c = 0) := hidd (by
                rw [HO4.out, if_neg]
                have : linkOk da = true := by
                  unfold linkOk
                  rw [List.all_eq_true]
                  intro y hy
                  exact hall y (by rw [hkl, List.take_of_length_le (by simp)]; exact hy)
                rw [this]; decide)
              have q7 : decide ((k : Int) < (da.size : Int)) = false := decide_eq_false (by omega)
              have q7' : decide (k < da.size) = false := decide_eq_false (by omega)
              clear hall hkl hbx ht0
              go_wp2_with fail
              clear q7 q7' hlt
              go_loopw [7, 8] (fun s7 _ wr => s7 = .int .i64 0 ∧ WO = wr) (fun _ _ _ => 0)
              case atStart => exact ⟨rfl, rfl⟩
              case round =>
                obtain ⟨rfl, hwo⟩ := hrel
                subst hwo
                go_wp2_with fail
                go_loopw [9] (fun s9 wr => s9 = .int .i64 1 ∧ WO = wr) (fun _ _ => 0)
                case atStart => exact ⟨rfl, rfl⟩
                case round =>
                  obtain ⟨rfl, hwo⟩ := hrel
                  subst hwo
                  go_wp2_with fail
                  go_ret
                  exact ⟨by rw [HC.out]; rfl, hBB⟩
    · have hs0 : shapeB (.mk kd da ex (.slice a ks.length cap) ks : Lt) = false := by rw [hsd]; simp [k0]
      have HC : Hid (c = 3) := hidd (by rw [hoe, if_neg e0, if_pos hs0])
      clear hoe hsb hb0 ht0 hk hdd hbg hbx hle e0 hs0 hsd
      go_enter Tryz.func45, Tryz.ntmps45
      go_wp2_with fail
      go_ret
      exact ⟨by rw [HC.out]; rfl, hB0⟩
  · have HC : Hid (c = 4) := hidd (by rw [hoe, if_pos (by rintro (h | h | h); exact hk.1 h; exact hk.2.1 h; exact hk.2.2 h)])
    clear hoe hsb hb0 ht0 hk hkk hdd hbg hbx hle
    go_enter Tryz.func45, Tryz.ntmps45
    go_wp2_with fail
    go_ret
    exact ⟨by rw [HC.out]; rfl, hB0⟩
end Go.Proofs.YtoaedkinlnkkhaaGreatDoor

namespace Go.Proofs.YtoaedkinlnkkhaaGreatDoor
open Go.RowKit Go.Shelf

set_option maxRecDepth 100000 in
set_option maxHeartbeats 40000000 in
theorem treeErr_any (t : Lt) (w : World) (ht : t.Ok w) : Calls Tryz.prog 28 #[nval t] w (NodE (treeE t) w) := by
  obtain ⟨a, cap, hv⟩ := ht.shape
  have hB0 : Below w.heap.size w (w.alloc (.cells #[.string t.kind, .string t.data, .bool t.exec, .slice a t.kids.length cap] 24)) := (Below.refl _ _).alloc (Nat.le_refl _) _
  have hC := listOf_any t 200 8 _ (ht.ob hB0) (by omega) (by omega)
  have hsc := listOf_scan t
  obtain ⟨L, hL⟩ : ∃ L, listOf 200 8 t = L := ⟨_, rfl⟩
  obtain ⟨c, hc⟩ : ∃ c, treeE t = c := ⟨_, rfl⟩
  rw [hL] at hC hsc
  rw [hc] at hsc ⊢
  unfold nval at hC ⊢
  rw [hv] at hC ⊢
  have HC := hidd hC
  have HSC := hidd hsc
  clear hC hv ht hL hsc hc
  unfold NodE
  go_enter Tryz.func28, Tryz.ntmps28
  go_wp2_with fail
  refine HC.out.mono ?_
  rintro e w2 ⟨v, rfl, hmany, hown, hok, hb2⟩
  have hB2 := hB0.trans (hb2.mono hB0.size)
  obtain ⟨va, vc, rfl⟩ := hown.shape
  clear hb2 HC hB0
  go_wp2_with fail
  go_loopw [4, 5] (fun s _ wr => ∃ i : Nat, i ≤ L.length ∧ s = .int .i64 (i : Int) ∧ scan 0 (L.take i) = 0 ∧ Below w2.heap.size w2 wr) (fun s _ _ => L.length - (intOf s).toNat)
  case atStart => exact ⟨0, Nat.zero_le _, rfl, rfl, Below.refl _ _⟩
  case round =>
    obtain ⟨i, hi, rfl, hz, hbel⟩ := hrel
    have hsl := (hown.ob hbel).sl
    have hBr := hB2.trans (hbel.mono hB2.size)
    by_cases hlt : i < L.length
    · obtain ⟨b, off, rfl, hb, c0, c1, c2, c3, c4, c5⟩ := sl_at6 hsl hlt
      have hxo := (hok _ (List.getElem_mem hlt)).ob hbel
      obtain ⟨s1, s2⟩ := scan_at hlt hz
      rw [HSC.out] at s1
      have hbd := ownE_bd L[i].n
      have p1 : (0 : Int) ≤ (i : Int) := by omega
      have p2 : (i : Int) < (L.length : Int) := by omega
      obtain ⟨rest, hrest⟩ : ∃ rest, scan (i + 1) (L.drop (i + 1)) = rest := ⟨_, rfl⟩
      rw [hrest] at s1
      generalize L[i] = x at *
      obtain ⟨xa, xc, hxv⟩ := hxo.ok.shape
      obtain ⟨px, dx, ⟨kx, dax, ex, vx, ksx⟩⟩ := x
      have hxk := hxo.ok
      simp only [Tr.v, Tr.kids, Tr.kind, Tr.data, Tr.exec] at hxv c0 c1 c2 c3 c4 c5 hxk s1 s2 hbd
      subst hxv
      have hdp := hxo.deep
      simp only at hdp
      clear hxo hsl hz hrest
      by_cases g1 : 8 < dx
      · have e1 : decide ((8 : Int) < (dx : Int)) = true := decide_eq_true (by omega)
        have HF : Hid (c = 9) := hidd (by rw [s1, if_pos g1])
        clear s1 s2 hxk hbd
        go_wp2_with fail
        go_ret
        exact ⟨by rw [HF.out]; rfl, hBr⟩
      have e1 : decide ((8 : Int) < (dx : Int)) = false := decide_eq_false (by omega)
      by_cases g2 : 200 ≤ i
      · have e2 : decide ((200 : Int) ≤ (i : Int)) = true := decide_eq_true (by omega)
        have HF : Hid (c = 8) := hidd (by rw [s1, if_neg g1, if_pos g2])
        clear s1 s2 hxk hbd
        go_wp2_with fail
        go_ret
        exact ⟨by rw [HF.out]; rfl, hBr⟩
      have e2 : decide ((200 : Int) ≤ (i : Int)) = false := decide_eq_false (by omega)
      have HN := hidd (nodeErr_any _ _ hxk)
      obtain ⟨o, ho⟩ : ∃ o, ownE (Tr.mk kx dax ex (.slice xa ksx.length xc) ksx : Lt) = o := ⟨_, rfl⟩
      rw [ho] at s1 s2 hbd HN
      unfold nval at HN
      simp only [Tr.kind, Tr.data, Tr.exec, Tr.v] at HN
      clear ho hxk
      by_cases g3 : 0 < o
      · have e3 : decide ((0 : Int) < (o : Int)) = true := decide_eq_true (by omega)
        have HF : Hid (c = o) := hidd (by rw [s1, if_neg g1, if_neg g2, if_pos g3])
        clear s1 s2
        go_wp2_with fail
        refine HN.out.mono ?_
        rintro e w4 ⟨rfl, hb4⟩
        go_wp2_with fail
        go_ret
        exact ⟨by rw [HF.out]; rfl, hBr.trans (hb4.mono hBr.size)⟩
      · have e3 : decide ((0 : Int) < (o : Int)) = false := decide_eq_false (by omega)
        have HZ := hidd (s2 g1 g2 g3)
        clear s1 s2
        go_wp2_with fail
        refine HN.out.mono ?_
        rintro e w4 ⟨rfl, hb4⟩
        have hbel4 := hbel.trans (hb4.mono hbel.size)
        clear hb4 HN
        go_wp2_with fail
        go_roundw
        case rel => exact ⟨i + 1, hlt, by go_num, HZ.out, hbel4⟩
        case measure => simp [intOf]; omega
    · have HF : Hid (c = 0) := hidd (by rw [List.take_of_length_le (by omega)] at hz; rw [← HSC.out]; exact hz)
      clear hz hsl
      go_wp2_with fail
      go_ret
      exact ⟨by rw [HF.out]; rfl, hBr⟩
end Go.Proofs.YtoaedkinlnkkhaaGreatDoor

namespace Go.Proofs.YtoaedkinlnkkhaaGreatDoor
open Go.RowKit Go.Shelf

mutual
theorem pre_ok {w : World} (p : ByteArray) (d : Nat) : ∀ t : Lt, t.Ok w → ∀ x ∈ pre p d t, x.n.Ok w
  | .mk k da e v ks => fun h x hx => by
    rw [pre] at hx
    rcases List.mem_cons.1 hx with rfl | hx
    · exact h
    · rw [Tr.Ok] at h; exact pres_ok p (d + 1) ks h.2.2 x hx
theorem pres_ok {w : World} (p : ByteArray) (d : Nat) : ∀ ks : List (ByteArray × Lt), Oks w ks → ∀ x ∈ pres p d ks, x.n.Ok w
  | [] => fun _ x hx => by simp [pres] at hx
  | (n, t) :: r => fun h x hx => by
    rw [pres] at hx
    rw [Oks] at h
    rcases List.mem_append.1 hx with hx | hx
    · exact pre_ok (sub p n) d t h.1 x hx
    · exact pres_ok p d r h.2 x hx
end
/-- Items, the first i of them mended. -/
def mended {α : Type} (L : List (It α)) (i : Nat) : List (It α) := (L.take i).map It.fix ++ L.drop i
theorem mended_len {α : Type} (L : List (It α)) (i : Nat) : (mended L i).length = L.length := by
  unfold mended; rw [List.length_append, List.length_map, List.length_take, List.length_drop]; omega
theorem mended_at {α : Type} {L : List (It α)} {i : Nat} (h : i < L.length) : mended L i = (L.take i).map It.fix ++ L[i] :: L.drop (i + 1) := by
  unfold mended; rw [List.getElem_cons_drop]
theorem mended_succ {α : Type} {L : List (It α)} {i : Nat} (h : i < L.length) : mended L (i + 1) = (L.take i).map It.fix ++ It.fix L[i] :: L.drop (i + 1) := by
  unfold mended; rw [List.take_succ_eq_append_getElem h, List.map_append, List.append_assoc]; rfl
theorem mended_get {α : Type} {L : List (It α)} {i : Nat} (h : i < L.length) (h' : i < (mended L i).length) : (mended L i)[i] = L[i] := by
  have e := mended_at h
  have hl : ((L.take i).map It.fix).length = i := by rw [List.length_map, List.length_take]; omega
  have : (mended L i)[i]? = some L[i] := by
    rw [e, List.getElem?_append_right (by omega), hl, Nat.sub_self]; rfl
  rw [List.getElem?_eq_getElem h'] at this
  exact Option.some.inj this
theorem fixP_nil {p : ByteArray} (h : (p.toList == []) = true) : fixP p = ⟨#[47]⟩ := if_pos h
theorem fixP_cons {p : ByteArray} (h : (p.toList == []) = false) : fixP p = p := if_neg (by rw [h]; decide)

/-- What ItemsOf gives. -/
def ItemP (L : List (It Value)) (w : World) (e : Ending) (w' : World) : Prop :=
  ∃ v, e = .returned v ∧ Ow (fun g => w.heap.size ≤ g) w' 64 6 v L.length (itcells L) ∧ Below w.heap.size w w'

set_option maxRecDepth 100000 in
set_option maxHeartbeats 40000000 in
theorem items_any (t : Lt) (w : World) (ht : t.Ok w) (h0 : treeE t = 0) : Calls Tryz.prog 80 #[nval t] w (ItemP (itemsOf t) w) := by
  obtain ⟨a, cap, hv⟩ := ht.shape
  have hB0 : Below w.heap.size w (w.alloc (.cells #[.string t.kind, .string t.data, .bool t.exec, .slice a t.kids.length cap] 24)) := (Below.refl _ _).alloc (Nat.le_refl _) _
  have hC := listOf_any t 200 8 _ (ht.ob hB0) (by omega) (by omega)
  rw [listOf_right t h0] at hC
  unfold itemsOf
  obtain ⟨L, hL⟩ : ∃ L, pre ⟨#[]⟩ 0 t = L := ⟨_, rfl⟩
  rw [hL] at hC ⊢
  unfold nval at hC ⊢
  rw [hv] at hC ⊢
  have HC := hidd hC
  clear hC hv ht hL h0
  go_enter Tryz.func80, Tryz.ntmps80
  go_wp2_with fail
  refine HC.out.mono ?_
  rintro e w2 ⟨v, rfl, hmany, hown, hok, hb2⟩
  have hB2 := hB0.trans (hb2.mono hB0.size)
  have hown2 := hown.mono (F' := fun g => w.heap.size ≤ g) (fun g hg => by simp at hg; omega)
  obtain ⟨va, vc, rfl⟩ := hown.shape
  clear hb2 HC hB0 hok hown
  go_wp2_with fail
  go_loopw [4] (fun s wr => ∃ i : Nat, i ≤ L.length ∧ s = .int .i64 (i : Int) ∧ Ow (fun g => w.heap.size ≤ g) wr 64 6 (.slice va L.length vc) L.length (itcells (mended L i)) ∧ Below w.heap.size w wr) (fun s _ => L.length - (intOf s).toNat)
  case atStart => exact ⟨0, Nat.zero_le _, rfl, hown2, hB2⟩
  case round =>
    obtain ⟨i, hi, rfl, hown, hBr⟩ := hrel
    clear hown2
    by_cases hlt : i < L.length
    · have hsl := hown.sl
      obtain ⟨b, off, rfl, hb, c0, -⟩ := sl_at6 (l := mended L i) hsl (i := i) (by rw [mended_len]; exact hlt)
      rw [mended_get hlt] at c0
      have hge := (hown.blk b rfl).1
      have hfz := hown.frozen (off + i * 6)
      have hma := mended_at hlt
      have hms := mended_succ hlt
      have hli : ((L.take i).map It.fix).length = i := by rw [List.length_map, List.length_take]; omega
      have hln := itcells_len (mended L i)
      rw [mended_len] at hln
      have p1 : (0 : Int) ≤ (i : Int) := by omega
      have p2 : (i : Int) < (L.length : Int) := by omega
      generalize L[i] = x at *
      obtain ⟨px, dx, nx⟩ := x
      simp only at c0
      cases hp : (px.toList == [])
      · have HN : Hid (Ow (fun g => w.heap.size ≤ g) wr 64 6 (.slice (some ⟨b, off, none⟩) L.length vc) L.length (itcells (mended L (i + 1)))) := hidd (by
          rw [hms, show It.fix ⟨px, dx, nx⟩ = ⟨px, dx, nx⟩ by unfold It.fix; simp only [fixP_cons hp], ← hma]; exact hown)
        clear hown hsl hma hms hfz
        go_wp2_with fail
        go_roundw
        case rel => exact ⟨i + 1, hlt, by go_num, HN.out, hBr⟩
        case measure => simp [intOf]; omega
      · have HN : Hid (Ow (fun g => w.heap.size ≤ g) (wr.setCell ⟨b, off + i * 6, none⟩ (.string ⟨#[47]⟩)) 64 6 (.slice (some ⟨b, off, none⟩) L.length vc) L.length (itcells (mended L (i + 1)))) := hidd (by
          have := hown.put (j := i * 6) (by rw [hln]; omega) (.string ⟨#[47]⟩)
          rw [hms, show It.fix ⟨px, dx, nx⟩ = ⟨⟨#[47]⟩, dx, nx⟩ by unfold It.fix; simp only [fixP_nil hp], ← itcells_set _ _ ⟨px, dx, nx⟩, hli, ← hma]
          exact this)
        have HB : Hid (Below w.heap.size w (wr.setCell ⟨b, off + i * 6, none⟩ (.string ⟨#[47]⟩))) := hidd (hBr.setCell (p := ⟨b, off + i * 6, none⟩) hge _)
        have hp' : px.toList = [] := by simpa using hp
        clear hown hsl hma hms
        go_wp2_with fail
        go_roundw
        case rel => exact ⟨i + 1, hlt, by go_num, HN.out, HB.out⟩
        case measure => simp [intOf]; omega
    · have HN : Hid (Ow (fun g => w.heap.size ≤ g) wr 64 6 (.slice va L.length vc) (L.map It.fix).length (itcells (L.map It.fix))) := hidd (by
        have e : mended L i = L.map It.fix := by unfold mended; rw [List.take_of_length_le (by omega), List.drop_of_length_le (by omega), List.append_nil]
        rw [List.length_map, ← e]; exact hown)
      clear hown
      go_wp2_with fail
      go_ret
      exact ⟨_, rfl, HN.out, hBr⟩
end Go.Proofs.YtoaedkinlnkkhaaGreatDoor
