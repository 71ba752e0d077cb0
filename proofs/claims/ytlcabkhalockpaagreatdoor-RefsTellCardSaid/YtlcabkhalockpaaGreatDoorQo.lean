/- The document's UsersOf and DeadOf. Condition: the packs and the names are there. -/
import Derived.Test.YtlcabkhalockpaaGreatDoorQn
namespace Go.Proofs.YtlcabkhalockpaaGreatDoor
open Go.RowKit Go.Shelf Go.Maps

/-- What UsersOf gives. -/
def UoP (L : List Pv) (n : ByteArray) (w : World) (e : Ending) (w' : World) : Prop :=
  ∃ (c : List ByteArray) (a : Option Addr) (k : Nat), e = .returned (.tuple #[.slice a c.length k, fauV (closE L [n])]) ∧ TxI c (.slice a c.length k) w' ∧ Below w.heap.size w w' ∧
    ((closE L [n]).1 = 0 → Up c ∧ ∀ s, s ∈ c ↔ s ∈ usersOf (pnL L) n) ∧ ((closE L [n]).1 ≠ 0 → c = [])
theorem pair_le {L : List Pv} {n : ByteArray} {o : List ByteArray} (hu : Up o) (k : Nat) (h : ∀ s, s ∈ o ↔ s ∈ usersOf (pnL (L.take k)) n) (hl : L.length ≤ 40) : o.length ≤ 40 := by
  have h1 : o.length ≤ (usersOf (pnL (L.take k)) n).length := nodup_le (hu.imp fun q e => by rw [e] at q; exact absurd q (List.lt_irrefl _)) (fun s hs => (h s).1 hs)
  have h2 := users_le (L.take k) n
  rw [List.length_take] at h2
  omega

set_option maxRecDepth 100000 in
set_option maxHeartbeats 40000000 in
theorem usersOf_any (L : List Pv) (n : ByteArray) (v : Value) (w : World) (h : PkI L v w) :
    Calls Tryz.prog 17 #[v, .string n] w (UoP L n w) := by
  obtain ⟨a, cap, rfl⟩ := h.shape
  have hle := h.1.le
  have hbA : Below w.heap.size w (w.alloc (.cells #[.int .i64 0, .int .i64 0] 33)) := (Below.refl _ _).alloc (Nat.le_refl _) _
  have hres := Blk.new w [.int .i64 0, .int .i64 0] 33
  have HPF := hidd (packsFault_any L _ _ (h.ob hbA))
  have HH := hidd (fun W (hW : Below w.heap.size w W) => h.ob hW)
  have HK0 : Hid (CoK w (w.alloc (.cells #[.int .i64 0, .int .i64 0] 33))) := hidd ⟨hbA, hres⟩
  clear h hbA hres
  go_enter Tryz.func17, Tryz.ntmps17
  go_wp2_with fail
  refine HPF.out.mono ?_
  rintro e w1 ⟨rfl, hb1⟩
  have hK1 := HK0.out.later hb1
  obtain ⟨R, hR⟩ : ∃ R, packsE (pnL L) = R := ⟨_, rfl⟩
  rw [hR]
  obtain ⟨c, at_⟩ := R
  unfold fauV
  simp only
  have hB2 : Below w1.heap.size w1 (w1.alloc (.cells #[.int .i64 (c : Int), .int .i64 at_] 33)) := (Below.refl _ _).alloc (Nat.le_refl _) _
  have hf := Blk.new w1 [.int .i64 (c : Int), .int .i64 at_] 33
  have hK2 := hK1.later hB2
  go_upto_region 2 with fail
  obtain ⟨fb, hfb⟩ : ∃ fb, w1.heap.size = fb := ⟨_, rfl⟩
  have HFB := hidd hfb
  rw [hfb] at hf ⊢
  generalize w1.alloc (.cells #[.int .i64 (c : Int), .int .i64 at_] 33) = w2 at *
  have c0 := hf.cell (i := 0) rfl
  by_cases hc : c = 0
  rotate_left
  · have q : (0 : Int) < (c : Int) := by omega
    have c1 := hf.cell (i := 1) rfl
    have hr1 := hK2.res
    have f0 := hr1.frozen 0
    have f1 := hr1.frozen 1
    have y0 := hr1.cell (i := 0) rfl
    have y1 := hr1.cell (i := 1) rfl
    have s2 := (hr1.set 0 (.int .i64 (c : Int))).set 1 (.int .i64 at_)
    have r0 := s2.cell (i := 0) rfl
    have r1 := s2.cell (i := 1) rfl
    have HB := hidd ((hK2.below.setCell (p := ⟨w.heap.size, 0, none⟩) (Nat.le_refl _) (.int .i64 (c : Int))).setCell (p := ⟨w.heap.size, 1, none⟩) (Nat.le_refl _) (.int .i64 at_))
    have HCE : Hid (closE L [n] = (c, at_)) := hidd (by rw [closE_p (by rw [hR]; exact hc), hR])
    clear hR hr1 s2 hK2 hK1 hB2 hf
    go_wp2_with fail
    go_region
    all_goals
      go_wp2_with fail
      refine bodyPost_ret (v := .tuple #[.slice none 0 0, fauV (c, at_)]) ?_ rfl ?_
      · rw [results_tmp_cell rfl]
        unfold fauV
        go_simp
      · exact ⟨[], none, 0, by rw [HCE.out]; rfl, txi_nil _, HB.out.drew, fun h => absurd (by rw [HCE.out] at h; exact h) hc, fun _ => rfl⟩
  have q0 : ¬ (0 : Int) < (c : Int) := by omega
  have hg : Good (pnL L) := good_of (by rw [hR]; exact hc)
  have hp0 : (packsE (pnL L)).1 = 0 := by rw [hR]; exact hc
  have HP0 := hidd hp0
  have hl40 : L.length ≤ 40 := by have := hg.few; simpa [pnL] using this
  have HFI := hidd (find_any L (.slice a L.length cap) n w2 (HH.out w2 hK2.below))
  have HK2 := hidd hK2
  clear hR hg hp0 hB2 hK1 hf hc hK2
  go_wp2_with fail
  clear c0 q0
  refine HFI.out.mono ?_
  rintro e w3 ⟨j, rfl, hb3, hj1, hj2⟩
  have hK3 := HK2.out.later hb3
  by_cases hin : n ∈ nmL L
  rotate_left
  · have q : j < 0 := hj2 hin
    have HCE : Hid (closE L [n] = (6, -1)) := hidd (closE_6 HP0.out (List.mem_singleton.2 rfl) hin)
    have HK3 := hidd hK3
    clear hj1 hj2 hin hK3 HFI hb3
    go_wp2_with fail
    refine (bare_fn 6 _).mono ?_
    rintro e w4 ⟨rfl, hb4⟩
    have hK4 := HK3.out.later hb4
    have hr1 := hK4.res
    have f0 := hr1.frozen 0
    have f1 := hr1.frozen 1
    have y0 := hr1.cell (i := 0) rfl
    have y1 := hr1.cell (i := 1) rfl
    have s2 := (hr1.set 0 (.int .i64 6)).set 1 (.int .i64 (-1))
    have r0 := s2.cell (i := 0) rfl
    have r1 := s2.cell (i := 1) rfl
    have HB := hidd ((hK4.below.setCell (p := ⟨w.heap.size, 0, none⟩) (Nat.le_refl _) (.int .i64 6)).setCell (p := ⟨w.heap.size, 1, none⟩) (Nat.le_refl _) (.int .i64 (-1)))
    clear hr1 s2 hK4 hb4 HK3
    go_wp2_with fail
    refine bodyPost_ret (v := .tuple #[.slice none 0 0, fauV (6, -1)]) ?_ rfl ?_
    · rw [results_tmp_cell rfl]
      unfold fauV
      go_simp
    · exact ⟨[], none, 0, by rw [HCE.out]; rfl, txi_nil _, HB.out, fun h => absurd (by rw [HCE.out] at h; exact h) (by decide), fun _ => rfl⟩
  have q : ¬ j < 0 := by have := hj1 hin; omega
  have HCE : Hid (closE L [n] = (0, -1)) := hidd (closE_0 HP0.out (fun s hs => by rw [List.mem_singleton.1 hs]; exact hin))
  have HK3 := hidd hK3
  clear hj1 hj2 hin hK3 HFI hb3
  go_wp2_with fail
  clear q
  go_loopw [7, 8] (fun vo vi wr => ∃ (k : Nat) (oa : Option Addr) (oc : Nat) (o : List ByteArray), k ≤ L.length ∧ vi = .int .i64 (k : Int) ∧ vo = .slice oa o.length oc ∧ Up o ∧ (∀ s, s ∈ o ↔ s ∈ usersOf (pnL (L.take k)) n) ∧ TxI o (.slice oa o.length oc) wr ∧ CoK w wr) (fun _ vi _ => L.length - (intOf vi).toNat)
  case atStart => exact ⟨0, none, 0, [], Nat.zero_le _, rfl, rfl, List.Pairwise.nil, fun s => Iff.rfl, txi_nil _, HK3.out⟩
  case round =>
    clear HK3
    obtain ⟨k, oa, oc, o, hk, rfl, rfl, hup, hmem, htx, hK⟩ := hrel
    by_cases hlt : k < L.length
    · obtain ⟨b1, o1, rfl, hb1, a0, a1, -⟩ := (HH.out wr hK.below).at hlt
      have hok := (HH.out wr hK.below).2 _ (List.getElem_mem hlt)
      have p1 : (0 : Int) ≤ (k : Int) := by omega
      have p2 : (k : Int) < (L.length : Int) := by omega
      have hus := fun q (hq : usB n L[k].pn = q) => users_succ2 L n hlt hq
      have hol := pair_le hup k hmem hl40
      have HLT := hidd hlt
      generalize L[k] = pv at *
      obtain ⟨nm, ra, rc, rs, kk, dd, ee, ta, tn, tc⟩ := pv
      simp only [Pv.rv, Pv.pn] at a0 a1 hus
      have hrt := hok.txi
      have hyz := hok.nm
      simp only [Pv.rv] at hrt hyz
      have HIT := hidd (inTexts_any rs (.slice ra rs.length rc) n wr hrt)
      have HA0 := hidd (fun W (hW : Below wr.heap.size wr W) => (hW.cell (p := ⟨b1, o1 + k * 6, none⟩) hb1).trans a0)
      have HYZ := hidd hyz
      have HUP := hidd hup
      have HTXR := hidd (fun W (hW : Below wr.heap.size wr W) => htx.ob hW)
      have HKR := hidd hK
      have HMEM := hidd hmem
      clear hup htx hK hok hrt hlt hmem hyz
      by_cases heq : nm = n
      · have t2 : (nm.toList != n.toList) = false := by rw [heq]; simp
        have t1 : (nm.toList == n.toList) = true := by rw [heq]; exact beq_self_eq_true _
        have HN : Hid (∀ s, s ∈ o ↔ s ∈ usersOf (pnL (L.take (k + 1))) n) := hidd (fun s => by rw [hus false (by simp [usB, heq]), HMEM.out]; simp)
        have HT := hidd (HTXR.out wr (Below.refl _ _))
        clear hus heq HIT HA0 HTXR HMEM a1
        go_wp2_with fail
        go_roundw
        case rel => exact ⟨k + 1, oa, oc, o, HLT.out, by go_num, rfl, HUP.out, HN.out, HT.out, HKR.out⟩
        case measure => simp [intOf]; have := HLT.out; omega
      · have t1 : (nm.toList == n.toList) = false := by
          rw [beq_eq_false_iff_ne]
          intro e
          exact heq (toList_inj (by rwa [Lib.toList_data, Lib.toList_data] at e))
        have t2 : (nm.toList != n.toList) = true := by simp only [bne, t1]; rfl
        cases hin : inB n rs
        · rw [hin] at HIT
          have HN : Hid (∀ s, s ∈ o ↔ s ∈ usersOf (pnL (L.take (k + 1))) n) := hidd (fun s => by rw [hus false (by simp [usB, hin]), HMEM.out]; simp)
          clear hus heq HA0 HMEM hin
          go_wp2_with fail
          refine HIT.out.mono ?_
          rintro e w4 ⟨rfl, hb4⟩
          have HK4 := hidd (HKR.out.later hb4)
          have HT4 := hidd (HTXR.out _ hb4)
          clear hb4 HKR HTXR HIT
          go_wp2_with fail
          go_roundw
          case rel => exact ⟨k + 1, oa, oc, o, HLT.out, by go_num, rfl, HUP.out, HN.out, HT4.out, HK4.out⟩
          case measure => simp [intOf]; have := HLT.out; omega
        · rw [hin] at HIT
          have HN : Hid (∀ s, s ∈ usersOf (pnL (L.take (k + 1))) n ↔ s ∈ o ∨ s = nm) := hidd (fun s => by rw [hus true (by simp [usB, hin, heq]), List.mem_append, ← HMEM.out]; simp)
          clear hus heq HMEM hin
          go_wp2_with fail
          refine HIT.out.mono ?_
          rintro e w4 ⟨rfl, hb4⟩
          have HK4 := hidd (HKR.out.later hb4)
          have a4 := HA0.out w4 hb4
          have HW := hidd (with_any o (.slice oa o.length oc) nm w4 (HTXR.out _ hb4) HUP.out HYZ.out (by omega))
          clear hb4 HKR HTXR HIT HA0 a0 a1
          go_wp2_with fail
          refine HW.out.mono ?_
          rintro e w5 ⟨o2, ca, cc, rfl, hcx, hb5, hcu, hcm, hcl⟩
          have HK5 := hidd (HK4.out.later hb5)
          have HM : Hid (Up o2 ∧ (∀ s, s ∈ o2 ↔ s ∈ usersOf (pnL (L.take (k + 1))) n) ∧ TxI o2 (.slice ca o2.length cc) w5) := hidd ⟨hcu, fun s => by rw [hcm, HN.out], hcx⟩
          clear hcx hcu hcm hcl hb5 HW HK4
          go_wp2_with fail
          go_roundw
          case rel => exact ⟨k + 1, ca, cc, o2, HLT.out, by go_num, rfl, HM.out.1, HM.out.2.1, HM.out.2.2, HK5.out⟩
          case measure => simp [intOf]; have := HLT.out; omega
    · have hkl : k = L.length := by omega
      subst hkl
      rw [List.take_of_length_le (Nat.le_refl _)] at hmem
      have HMEM := hidd hmem
      have HUP := hidd hup
      have HTXR := hidd htx
      have HKR := hidd hK
      clear hmem hup htx hK hlt hk
      go_wp2_with fail
      refine (fine_fn _).mono ?_
      rintro e w4 ⟨rfl, hb4⟩
      have hK4 := HKR.out.later hb4
      have hr1 := hK4.res
      have f0 := hr1.frozen 0
      have f1 := hr1.frozen 1
      have y0 := hr1.cell (i := 0) rfl
      have y1 := hr1.cell (i := 1) rfl
      have s2 := (hr1.set 0 (.int .i64 0)).set 1 (.int .i64 (-1))
      have r0 := s2.cell (i := 0) rfl
      have r1 := s2.cell (i := 1) rfl
      have HB := hidd ((hK4.below.setCell (p := ⟨w.heap.size, 0, none⟩) (Nat.le_refl _) (.int .i64 0)).setCell (p := ⟨w.heap.size, 1, none⟩) (Nat.le_refl _) (.int .i64 (-1)))
      have HT4 := hidd (HTXR.out.ob hb4)
      have HTS := hidd (txi_set HT4.out hr1 (.int .i64 0) (.int .i64 (-1)))
      clear hr1 s2 hK4 hb4 HKR HTXR HT4
      go_wp2_with fail
      refine bodyPost_ret (v := .tuple #[.slice oa o.length oc, fauV (0, -1)]) ?_ rfl ?_
      · rw [results_tmp_cell rfl]
        unfold fauV
        go_simp
      · exact ⟨o, oa, oc, by rw [HCE.out], HTS.out, HB.out, fun _ => ⟨HUP.out, HMEM.out⟩, fun h => absurd (by rw [HCE.out]) h⟩
/-- What DeadOf gives. -/
def DoP (L : List Pv) (names : List ByteArray) (w : World) (e : Ending) (w' : World) : Prop :=
  ∃ (c : List ByteArray) (a : Option Addr) (k : Nat), e = .returned (.tuple #[.slice a c.length k, fauV (closE L names)]) ∧ TxI c (.slice a c.length k) w' ∧ Below w.heap.size w w' ∧
    ((closE L names).1 = 0 → ∃ live, Clo (pnL L) names live ∧ c = deadOf (pnL L) live) ∧ ((closE L names).1 ≠ 0 → c = [])
/-- The dead ones from the m-th pack on, the last one first. -/
def dB (L : List Pv) (lv : List ByteArray) (m : Nat) : List ByteArray := ((nmL (L.drop m)).reverse).filter fun s => !inB s lv
theorem dB_all (L : List Pv) (lv : List ByteArray) : dB L lv L.length = [] := by simp [dB, nmL]
theorem dB_0 (L : List Pv) (lv : List ByteArray) : dB L lv 0 = deadOf (pnL L) lv := by
  unfold dB deadOf
  rw [pnL_names, List.drop_zero]
theorem dB_step (L : List Pv) (lv : List ByteArray) {i : Nat} (hi : i < L.length) (q : Bool) (hq : inB L[i].name lv = q) : dB L lv i = dB L lv (i + 1) ++ (if q = true then [] else [L[i].name]) := by
  unfold dB
  rw [List.drop_eq_getElem_cons hi]
  simp only [nmL, List.map_cons, List.reverse_cons, List.filter_append, List.filter_cons, List.filter_nil, hq]
  cases q <;> simp
theorem dB_le (L : List Pv) (lv : List ByteArray) (m : Nat) : (dB L lv m).length ≤ L.length := by
  unfold dB
  refine Nat.le_trans (List.length_filter_le _ _) ?_
  simp [nmL]
theorem dB_mem {L : List Pv} {lv : List ByteArray} {m : Nat} {s : ByteArray} (h : s ∈ dB L lv m) : s ∈ nmL L := by
  have h1 := (List.mem_filter.1 h).1
  rw [List.mem_reverse] at h1
  obtain ⟨p, hp, rfl⟩ := List.mem_map.1 h1
  exact List.mem_map.2 ⟨p, List.mem_of_mem_drop hp, rfl⟩

set_option maxRecDepth 100000 in
set_option maxHeartbeats 40000000 in
theorem deadOf_any (L : List Pv) (names : List ByteArray) (v u : Value) (w : World) (h : PkI L v w) (hu : TxI names u w) (h5 : names.length ≤ 1000) :
    Calls Tryz.prog 19 #[v, u] w (DoP L names w) := by
  obtain ⟨a, cap, rfl⟩ := h.shape
  obtain ⟨ua, uc, rfl⟩ := hu.shape
  obtain ⟨i0, hi0, hz0, hz1, hz2⟩ := info_parts infoTx3
  have hle := h.1.le
  have hbA : Below w.heap.size w (w.alloc (.cells #[.int .i64 0, .int .i64 0] 33)) := (Below.refl _ _).alloc (Nat.le_refl _) _
  have hres := Blk.new w [.int .i64 0, .int .i64 0] 33
  have HCO := hidd (closureOf_any L names _ _ _ (h.ob hbA) (hu.ob hbA) h5)
  have HH := hidd (fun W (hW : Below w.heap.size w W) => h.ob hW)
  have HK0 : Hid (CoK w (w.alloc (.cells #[.int .i64 0, .int .i64 0] 33))) := hidd ⟨hbA, hres⟩
  clear h hu hbA hres
  go_enter Tryz.func19, Tryz.ntmps19
  go_wp2_with fail
  refine HCO.out.mono ?_
  rintro e w1 ⟨lv, la, lc, rfl, hlv, hb1, hok, hno⟩
  have hK1 := HK0.out.later hb1
  obtain ⟨R, hR⟩ : ∃ R, closE L names = R := ⟨_, rfl⟩
  rw [hR] at hok hno ⊢
  obtain ⟨c, at_⟩ := R
  unfold fauV
  simp only at hok hno ⊢
  have hB2 : Below w1.heap.size w1 (w1.alloc (.cells #[.int .i64 (c : Int), .int .i64 at_] 33)) := (Below.refl _ _).alloc (Nat.le_refl _) _
  have hf := Blk.new w1 [.int .i64 (c : Int), .int .i64 at_] 33
  have hK2 := hK1.later hB2
  have hlv2 := hlv.ob hB2
  clear HCO
  go_upto_region 2 with fail
  obtain ⟨fb, hfb⟩ : ∃ fb, w1.heap.size = fb := ⟨_, rfl⟩
  have HFB := hidd hfb
  rw [hfb] at hf ⊢
  generalize w1.alloc (.cells #[.int .i64 (c : Int), .int .i64 at_] 33) = w2 at *
  have c0 := hf.cell (i := 0) rfl
  by_cases hc : c = 0
  rotate_left
  · have q : (0 : Int) < (c : Int) := by omega
    have c1 := hf.cell (i := 1) rfl
    have hr1 := hK2.res
    have f0 := hr1.frozen 0
    have f1 := hr1.frozen 1
    have y0 := hr1.cell (i := 0) rfl
    have y1 := hr1.cell (i := 1) rfl
    have s2 := (hr1.set 0 (.int .i64 (c : Int))).set 1 (.int .i64 at_)
    have r0 := s2.cell (i := 0) rfl
    have r1 := s2.cell (i := 1) rfl
    have HB := hidd ((hK2.below.setCell (p := ⟨w.heap.size, 0, none⟩) (Nat.le_refl _) (.int .i64 (c : Int))).setCell (p := ⟨w.heap.size, 1, none⟩) (Nat.le_refl _) (.int .i64 at_))
    have HCE : Hid (closE L names = (c, at_)) := hidd hR
    clear hR hr1 s2 hK2 hK1 hB2 hf hlv2 hlv hok hno
    go_wp2_with fail
    go_region
    all_goals
      go_wp2_with fail
      refine bodyPost_ret (v := .tuple #[.slice none 0 0, fauV (c, at_)]) ?_ rfl ?_
      · rw [results_tmp_cell rfl]
        unfold fauV
        go_simp
      · exact ⟨[], none, 0, by rw [HCE.out]; rfl, txi_nil _, HB.out.drew, fun h => absurd (by rw [HCE.out] at h; exact h) hc, fun _ => rfl⟩
  have q0 : ¬ (0 : Int) < (c : Int) := by omega
  have hp0 : (packsE (pnL L)).1 = 0 := by
    by_cases hq : (packsE (pnL L)).1 = 0
    · exact hq
    · rw [← closE_p (names := names) hq, hR]; exact hc
  have hat : closE L names = (0, -1) := by
    unfold closE at hR ⊢
    rw [if_pos hp0] at hR ⊢
    split at hR
    · exact if_pos (by assumption)
    · rw [Prod.mk.injEq] at hR; omega
  have hg : Good (pnL L) := good_of hp0
  have hl40 : L.length ≤ 40 := by have := hg.few; simpa [pnL] using this
  have HCE := hidd hat
  have HCLO : Hid (Clo (pnL L) names lv) := hidd (hok hc)
  have HLV := hidd (fun W (hW : Below w2.heap.size w2 W) => hlv2.ob hW)
  have HL2 := hidd (fun W (hW : Below w2.heap.size w2 W) => HH.out W (below_step hK2.below hW))
  have HK2 := hidd hK2
  clear hR hg hp0 hB2 hK1 hf hc hK2 hlv2 hlv hok hno hat
  go_wp2_with fail
  clear c0 q0
  go_loopw [8, 9] (fun vo vi wr => ∃ (m : Nat) (oa : Option Addr) (oc : Nat) (o : List ByteArray), m ≤ L.length ∧ vi = .int .i64 ((m : Int) - 1) ∧ vo = .slice oa o.length oc ∧ o = dB L lv m ∧ Ow (fun g => w2.heap.size ≤ g) wr 9 1 (.slice oa o.length oc) o.length (tcells o) ∧ Below w2.heap.size w2 wr) (fun _ vi _ => (intOf vi + 1).toNat)
  case atStart => exact ⟨L.length, none, 0, [], Nat.le_refl _, rfl, rfl, (dB_all L lv).symm, Ow.nil _ _ _ _, Below.refl _ _⟩
  case round =>
    obtain ⟨m, oa, oc, o, hm, rfl, rfl, ho, how, hBr⟩ := hrel
    have holen : o.length ≤ 40 := by
      have := dB_le L lv m
      rw [← ho] at this
      omega
    obtain _ | i := m
    · have q : ¬ (0 : Int) ≤ ((0 : Nat) : Int) - 1 := by omega
      rw [dB_0] at ho
      have HO := hidd ho
      have HTXR : Hid (TxI o (.slice oa o.length oc) wr) := hidd ⟨how.sl, fun s hs => by
        rw [ho, ← dB_0] at hs
        obtain ⟨p, hp, rfl⟩ := List.mem_map.1 (dB_mem hs)
        exact ((HL2.out wr hBr).2 p hp).nm⟩
      have HKR := hidd (HK2.out.later hBr)
      clear ho how hBr
      go_wp2_with fail
      refine (fine_fn _).mono ?_
      rintro e w4 ⟨rfl, hb4⟩
      have hK4 := HKR.out.later hb4
      have hr1 := hK4.res
      have f0 := hr1.frozen 0
      have f1 := hr1.frozen 1
      have y0 := hr1.cell (i := 0) rfl
      have y1 := hr1.cell (i := 1) rfl
      have s2 := (hr1.set 0 (.int .i64 0)).set 1 (.int .i64 (-1))
      have r0 := s2.cell (i := 0) rfl
      have r1 := s2.cell (i := 1) rfl
      have HB := hidd ((hK4.below.setCell (p := ⟨w.heap.size, 0, none⟩) (Nat.le_refl _) (.int .i64 0)).setCell (p := ⟨w.heap.size, 1, none⟩) (Nat.le_refl _) (.int .i64 (-1)))
      have HT4 := hidd (HTXR.out.ob hb4)
      have HTS := hidd (txi_set HT4.out hr1 (.int .i64 0) (.int .i64 (-1)))
      clear hr1 s2 hK4 hb4 HKR HTXR HT4
      go_wp2_with fail
      refine bodyPost_ret (v := .tuple #[.slice oa o.length oc, fauV (0, -1)]) ?_ rfl ?_
      · rw [results_tmp_cell rfl]
        unfold fauV
        go_simp
      · exact ⟨o, oa, oc, by rw [HCE.out], HTS.out, HB.out, fun _ => ⟨lv, HCLO.out, HO.out⟩, fun h => absurd (by rw [HCE.out]) h⟩
    · have q : (0 : Int) ≤ ((i + 1 : Nat) : Int) - 1 := by omega
      have hi : i < L.length := by omega
      obtain ⟨b1, o1, rfl, hb1, a0, -⟩ := (HL2.out wr hBr).at hi
      have hstep := dB_step L lv hi
      have p1 : (0 : Int) ≤ (i : Int) := by omega
      have p2 : (i : Int) < (L.length : Int) := by omega
      have p3 : ((i + 1 : Nat) : Int) - 1 = (i : Int) := by omega
      have HI := hidd hi
      rw [← ho] at hstep
      generalize L[i] = pv at *
      obtain ⟨nm, ra, rc, rs, kk, dd, ee, ta, tn, tc⟩ := pv
      simp only at a0 hstep
      have HIT := hidd (inTexts_any lv (.slice la lv.length lc) nm wr (HLV.out wr hBr))
      have HA0 := hidd (fun W (hW : Below wr.heap.size wr W) => (hW.cell (p := ⟨b1, o1 + i * 6, none⟩) hb1).trans a0)
      rw [p3]
      clear p3 q hi hm ho
      cases hin : inB nm lv
      · rw [hin] at HIT
        have HN : Hid (dB L lv i = o ++ [nm]) := hidd (by rw [hstep false hin]; simp)
        have HOW := hidd (fun W (hW : Below wr.heap.size wr W) => how.ob hW)
        have HBR := hidd hBr
        clear hin hstep how hBr
        go_wp2_with fail
        refine HIT.out.mono ?_
        rintro e w5 ⟨rfl, hb5⟩
        have hB5 := below_step HBR.out hb5
        have a5 := HA0.out w5 hb5
        have HO5 := hidd ((HOW.out w5 hb5).alloc (.cells #[.string nm] 9))
        have hs1 := Src.new (P := Tryz.prog) (size := 1) (tx := 23) Tryz.underlying23 w5 w5.heap.size rfl [.string nm] 9 rfl (by intro u hu; simp only [List.mem_cons, List.not_mem_nil, or_false] at hu; rcases hu with rfl; rfl) 1
        have hB6 := hB5.alloc hB5.size (.cells #[.string nm] 9)
        have hsz6 := hB6.size
        have hsz5 := hB5.size
        clear hb5 HIT HOW HBR HA0 hB5 a0
        go_wp2_with (at_builtin; refine wpList_append_ow _ rfl _ _ 23 23 rfl (fun g => w2.heap.size ≤ g) ?cF 9 i0 _ 1 16 Tryz.underlying23 hi0 hz0 hz1 hz2 rfl (by decide) _ _ _ rfl HO5.out _ _ _ rfl hs1 ?c3 ?c4 ?_)
        case cF => intro g hg; omega
        case c3 => unfold maxLen; omega
        case c4 => omega
        intro v' w7 how7 hgr7
        obtain ⟨va7, vc7, rfl⟩ := how7.shape
        have HO7 := hidd how7
        have HB7 := hidd (hB6.grown hgr7 hB6.size (fun k hk => (HO5.out.blk k hk).1))
        clear how7 hgr7 HO5 hs1 hB6 hsz6 hsz5
        go_wp2_with fail
        go_roundw
        case rel => exact ⟨i, va7, vc7, o ++ [nm], by have := HI.out; omega, rfl, by rw [List.length_append]; rfl, HN.out.symm, by rw [List.length_append, show tcells (o ++ [nm]) = tcells o ++ [.string nm] by simp [tcells]]; exact HO7.out, HB7.out⟩
        case measure => simp [intOf]
      · rw [hin] at HIT
        have HN : Hid (dB L lv i = o) := hidd (by rw [hstep true hin]; simp)
        have HOW := hidd (fun W (hW : Below wr.heap.size wr W) => how.ob hW)
        have HBR := hidd hBr
        clear hin hstep how hBr
        go_wp2_with fail
        refine HIT.out.mono ?_
        rintro e w5 ⟨rfl, hb5⟩
        have HB5 := hidd (below_step HBR.out hb5)
        have HO5 := hidd (HOW.out w5 hb5)
        clear hb5 HIT HOW HBR HA0 a0
        go_wp2_with fail
        go_roundw
        case rel => exact ⟨i, oa, oc, o, by have := HI.out; omega, rfl, rfl, HN.out.symm, HO5.out, HB5.out⟩
        case measure => simp [intOf]
end Go.Proofs.YtlcabkhalockpaaGreatDoor
