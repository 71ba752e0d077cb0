/- The statements' InTexts, longTexts and longPacks. Condition: the slices' cells are there. -/
import Derived.Test.YtlcabkhalockpaaGreatDoorQe
namespace Go.Proofs.YtlcabkhalockpaaGreatDoor
open Go.RowKit Go.Shelf Go.Maps

theorem txt_beq (a b : ByteArray) : (a.toList == b.toList) = decide (a = b) := by
  by_cases h : a = b
  · rw [decide_eq_true h, h]; exact beq_self_eq_true _
  · rw [decide_eq_false h, beq_eq_false_iff_ne]
    intro e
    exact h (toList_inj (by rwa [Lib.toList_data, Lib.toList_data] at e))
theorem inB_take {s : ByteArray} {l : List ByteArray} {k : Nat} (h : k < l.length) : inB s (l.take (k + 1)) = (inB s (l.take k) || decide (l[k] = s)) := by
  rw [List.take_succ_eq_append_getElem h]
  unfold inB
  rw [List.any_append, List.any_cons, List.any_nil, Bool.or_false]
set_option maxHeartbeats 4000000 in
theorem inTexts_any (l : List ByteArray) (v : Value) (s : ByteArray) (w : World) (h : TxI l v w) :
    Calls Tryz.prog 20 #[.string s, v] w fun e w' => e = .returned (.bool (inB s l)) ∧ Below w.heap.size w w' := by
  obtain ⟨a, cap, rfl⟩ := h.shape
  have hm := h.1.le
  go_enter Tryz.func20, Tryz.ntmps20
  go_wp2_with fail
  go_loopw [5] (fun i wr => ∃ k : Nat, k ≤ l.length ∧ i = .int .i64 k ∧ inB s (l.take k) = false ∧ Below w.heap.size w wr) (fun i _ => l.length - (intOf i).toNat)
  case atStart => exact ⟨0, Nat.zero_le _, rfl, by simp [inB], Below.refl _ _⟩
  case round =>
    obtain ⟨k, hk, rfl, hno, hbe⟩ := hrel
    by_cases hlt : k < l.length
    · obtain ⟨b1, o1, rfl, hb1, c1⟩ := (h.ob hbe).at hlt
      have p1 : (0 : Int) ≤ (k : Int) := by omega
      have p2 : (k : Int) < (l.length : Int) := by omega
      have hst := inB_take (s := s) hlt
      rw [hno, Bool.false_or] at hst
      have hmem : l[k] ∈ l := List.getElem_mem hlt
      generalize l[k] = y at *
      have t1 := txt_beq y s
      by_cases hx : y = s
      · have HIN : Hid (inB s l = true) := hidd (inB_iff.2 (by rw [← hx]; exact hmem))
        rw [decide_eq_true hx] at t1
        clear hno hst hmem h
        go_wp2_with fail
        go_ret
        exact ⟨by simp [HIN.out], hbe⟩
      · rw [decide_eq_false hx] at t1 hst
        have HST := hidd hst
        clear hno hst hmem h hx
        go_wp2_with fail
        go_roundw
        case rel => exact ⟨k + 1, hlt, by go_num, HST.out, hbe⟩
        case measure => simp [intOf]; omega
    · have hkl : k = l.length := by omega
      subst hkl
      rw [List.take_of_length_le (Nat.le_refl _)] at hno
      have HNO := hidd hno
      clear hno h
      go_wp2_with fail
      go_ret
      exact ⟨by simp [HNO.out], hbe⟩
/-- What longTexts says. -/
def LtP (l : List ByteArray) (w : World) (e : Ending) (w' : World) : Prop := ∃ b : Bool, e = .returned (.bool b) ∧ Below w.heap.size w w' ∧ (b = false → l.length ≤ 20 ∧ ∀ s ∈ l, s.size ≤ 30)
set_option maxHeartbeats 4000000 in
theorem longTexts_any (l : List ByteArray) (v : Value) (w : World) (h : TxI l v w) :
    Calls Tryz.prog 8 #[v, .int .i64 30] w (LtP l w) := by
  obtain ⟨a, cap, rfl⟩ := h.shape
  have hm := h.1.le
  by_cases h20 : l.length ≤ 20
  rotate_left
  · have p0 : (20 : Int) < (l.length : Int) := by omega
    have HR := hidd h20
    clear h h20
    go_enter Tryz.func8, Tryz.ntmps8
    go_wp2_with fail
    go_ret
    exact ⟨true, rfl, Below.refl _ _, fun e => by cases e⟩
  have p0 : ¬ (20 : Int) < (l.length : Int) := by omega
  go_enter Tryz.func8, Tryz.ntmps8
  go_wp2_with fail
  go_loopw [5] (fun i wr => ∃ k : Nat, k ≤ l.length ∧ i = .int .i64 k ∧ (∀ s ∈ l.take k, s.size ≤ 30) ∧ Below w.heap.size w wr) (fun i _ => l.length - (intOf i).toNat)
  case atStart => exact ⟨0, Nat.zero_le _, rfl, by simp, Below.refl _ _⟩
  case round =>
    obtain ⟨k, hk, rfl, hno, hbe⟩ := hrel
    by_cases hlt : k < l.length
    · obtain ⟨b1, o1, rfl, hb1, c1⟩ := (h.ob hbe).at hlt
      have p1 : (0 : Int) ≤ (k : Int) := by omega
      have p2 : (k : Int) < (l.length : Int) := by omega
      have hy9 := h.2 _ (List.getElem_mem hlt)
      unfold Sz at hy9
      have hst : l[k].size ≤ 30 → ∀ s ∈ l.take (k + 1), s.size ≤ 30 := fun hx s hs => by
        rw [List.take_succ_eq_append_getElem hlt, List.mem_append, List.mem_singleton] at hs
        rcases hs with hs | rfl
        · exact hno s hs
        · exact hx
      generalize l[k] = y at *
      have HST := hidd hst
      by_cases hx : y.size ≤ 30
      · have q1 : ¬ (30 : Int) < (y.size : Int) := by omega
        clear hno hst h
        go_wp2_with fail
        go_roundw
        case rel => exact ⟨k + 1, hlt, by go_num, HST.out hx, hbe⟩
        case measure => simp [intOf]; omega
      · have q1 : (30 : Int) < (y.size : Int) := by omega
        clear hno hst h
        go_wp2_with fail
        go_ret
        exact ⟨true, rfl, hbe, fun e => by cases e⟩
    · have hkl : k = l.length := by omega
      subst hkl
      rw [List.take_of_length_le (Nat.le_refl _)] at hno
      have HNO := hidd hno
      clear hno h
      go_wp2_with fail
      go_ret
      exact ⟨false, rfl, hbe, fun _ => ⟨h20, HNO.out⟩⟩
/-- A pack that is not long. -/
def Shp (p : Pv) : Prop := p.name.size ≤ 30 ∧ p.refs.length ≤ 25 ∧ p.tn = 0 ∧ ∀ s ∈ p.refs, s.size ≤ 30
/-- What longPacks says. -/
def LpP (L : List Pv) (w : World) (e : Ending) (w' : World) : Prop := ∃ b : Bool, e = .returned (.bool b) ∧ Below w.heap.size w w' ∧ (b = false → L.length ≤ 45 ∧ ∀ p ∈ L, Shp p)
set_option maxHeartbeats 8000000 in
theorem longPacks_any (L : List Pv) (v : Value) (w : World) (h : PkI L v w) (ht : ∀ p ∈ L, p.tn ≤ maxLen) :
    Calls Tryz.prog 7 #[v] w (LpP L w) := by
  obtain ⟨a, cap, rfl⟩ := h.shape
  have hm := h.1.le
  by_cases h20 : L.length ≤ 45
  rotate_left
  · have p0 : (45 : Int) < (L.length : Int) := by omega
    have HR := hidd h20
    clear h h20
    go_enter Tryz.func7, Tryz.ntmps7
    go_wp2_with fail
    go_ret
    exact ⟨true, rfl, Below.refl _ _, fun e => by cases e⟩
  have p0 : ¬ (45 : Int) < (L.length : Int) := by omega
  go_enter Tryz.func7, Tryz.ntmps7
  go_wp2_with fail
  go_loopw [3] (fun i wr => ∃ k : Nat, k ≤ L.length ∧ i = .int .i64 k ∧ (∀ p ∈ L.take k, Shp p) ∧ Below w.heap.size w wr) (fun i _ => L.length - (intOf i).toNat)
  case atStart => exact ⟨0, Nat.zero_le _, rfl, by simp, Below.refl _ _⟩
  case round =>
    obtain ⟨k, hk, rfl, hno, hbe⟩ := hrel
    by_cases hlt : k < L.length
    · obtain ⟨b1, o1, rfl, hb1, a0, a1, a2, a3, a4, a5⟩ := (h.ob hbe).at hlt
      have hok := (h.ob hbe).2 _ (List.getElem_mem hlt)
      have p1 : (0 : Int) ≤ (k : Int) := by omega
      have p2 : (k : Int) < (L.length : Int) := by omega
      have htk := ht _ (List.getElem_mem hlt)
      unfold maxLen at htk
      have hst : Shp L[k] → ∀ s ∈ L.take (k + 1), Shp s := fun hx s hs => by
        rw [List.take_succ_eq_append_getElem hlt, List.mem_append, List.mem_singleton] at hs
        rcases hs with hs | rfl
        · exact hno s hs
        · exact hx
      have HO := hidd hbe
      generalize L[k] = pv at *
      obtain ⟨nm, ra, rc, rs, kk, dd, ee, ta, tn, tc⟩ := pv
      simp only [Pv.rv, Pv.tv] at a0 a1 a2 a3 a4 a5 htk
      have hnm := hok.nm
      have htx := hok.txi
      unfold Sz at hnm
      simp only [Pv.rv] at hnm htx
      have hrl : rs.length ≤ 9223372036854775807 := htx.1.le
      clear hok hno
      by_cases hx1 : nm.size ≤ 30
      rotate_left
      · have q1 : (30 : Int) < (nm.size : Int) := by omega
        clear hst h htx ht
        go_wp2_with fail
        go_ret
        exact ⟨true, rfl, HO.out, fun e => by cases e⟩
      have q1 : ¬ (30 : Int) < (nm.size : Int) := by omega
      by_cases hx2 : rs.length ≤ 25
      rotate_left
      · have q2 : (25 : Int) < (rs.length : Int) := by omega
        clear hst h htx ht
        go_wp2_with fail
        go_ret
        exact ⟨true, rfl, HO.out, fun e => by cases e⟩
      have q2 : ¬ (25 : Int) < (rs.length : Int) := by omega
      by_cases hx3 : tn = 0
      rotate_left
      · have q3 : (0 : Int) < (tn : Int) := by omega
        clear hst h htx ht
        go_wp2_with fail
        go_ret
        exact ⟨true, rfl, HO.out, fun e => by cases e⟩
      subst hx3
      have HST : Hid ((∀ s ∈ rs, s.size ≤ 30) → ∀ s ∈ L.take (k + 1), Shp s) := hidd (fun q => hst ⟨hx1, hx2, rfl, q⟩)
      clear hst
      have HTX := hidd htx
      have HH := hidd (fun W (hW : Below w.heap.size w W) => h.ob hW)
      clear h htx ht
      go_wp2_with fail
      go_loopw [4] (fun j wr2 => ∃ m : Nat, m ≤ rs.length ∧ j = .int .i64 m ∧ (∀ s ∈ rs.take m, s.size ≤ 30) ∧ Below wr.heap.size wr wr2) (fun j _ => rs.length - (intOf j).toNat)
      case atStart => exact ⟨0, Nat.zero_le _, rfl, by simp, Below.refl _ _⟩
      case round =>
        obtain ⟨m, hm2, rfl, hno2, hbe2⟩ := hrel
        have e1 := (hbe2.cell (p := ⟨b1, o1 + k * 6 + 1, none⟩) hb1).trans a1
        by_cases hlt2 : m < rs.length
        · obtain ⟨b2, o2, rfl, hb2, c2⟩ := (HTX.out.ob hbe2).at hlt2
          have q4 : (0 : Int) ≤ (m : Int) := by omega
          have q5 : (m : Int) < (rs.length : Int) := by omega
          have hy9 := HTX.out.2 _ (List.getElem_mem hlt2)
          unfold Sz at hy9
          have hst2 : rs[m].size ≤ 30 → ∀ s ∈ rs.take (m + 1), s.size ≤ 30 := fun hx s hs => by
            rw [List.take_succ_eq_append_getElem hlt2, List.mem_append, List.mem_singleton] at hs
            rcases hs with hs | rfl
            · exact hno2 s hs
            · exact hx
          generalize rs[m] = y at *
          have HST2 := hidd hst2
          clear hst2 hno2
          by_cases hx : y.size ≤ 30
          · have q6 : ¬ (30 : Int) < (y.size : Int) := by omega
            go_wp2_with fail
            go_roundw
            case rel => exact ⟨m + 1, hlt2, by go_num, HST2.out hx, hbe2⟩
            case measure => simp [intOf]; omega
          · have q6 : (30 : Int) < (y.size : Int) := by omega
            go_wp2_with fail
            go_ret
            exact ⟨true, rfl, below_step HO.out hbe2, fun e => by cases e⟩
        · have hkl : m = rs.length := by omega
          subst hkl
          rw [List.take_of_length_le (Nat.le_refl _)] at hno2
          have HN2 := hidd hno2
          clear hno2
          go_wp2_with fail
          go_roundw
          case rel => exact ⟨k + 1, hlt, by go_num, HST.out HN2.out, below_step HO.out hbe2⟩
          case measure => simp [intOf]; omega
    · have hkl : k = L.length := by omega
      subst hkl
      rw [List.take_of_length_le (Nat.le_refl _)] at hno
      have HNO := hidd hno
      clear hno h
      go_wp2_with fail
      go_ret
      exact ⟨false, rfl, hbe, fun _ => ⟨h20, HNO.out⟩⟩
end Go.Proofs.YtlcabkhalockpaaGreatDoor
