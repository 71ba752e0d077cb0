/- The document's ClosureOf. Condition: the packs and the names are there. -/
import Derived.Test.YtlcabkhalockpaaGreatDoorQm
namespace Go.Proofs.YtlcabkhalockpaaGreatDoor
open Go.RowKit Go.Shelf Go.Maps

/-- What the walk from the last pack on keeps. -/
structure CvK (L : List Pn) (names o : List ByteArray) (m : Nat) : Prop where
  all : ∀ s ∈ names, s ∈ o
  just : ∀ s ∈ o, Reach L names s
  shut : ∀ j (h : j < L.length), m ≤ j → L[j].1 ∈ o → ∀ s ∈ L[j].2, s ∈ o
theorem CvK.no {L : List Pn} {names o : List ByteArray} {i : Nat} (h : CvK L names o (i + 1)) (hi : i < L.length) (hn : L[i].1 ∉ o) : CvK L names o i :=
  ⟨h.all, h.just, fun j hj hm hin => by
    by_cases e : j = i
    · subst e; exact absurd hin hn
    · exact h.shut j hj (by omega) hin⟩
theorem CvK.yes {L : List Pn} (hg : Good L) {names o o' : List ByteArray} {i : Nat} (h : CvK L names o (i + 1)) (hi : i < L.length) (hn : L[i].1 ∈ o) (ho : ∀ s, s ∈ o' ↔ s ∈ o ∨ s ∈ L[i].2) : CvK L names o' i := by
  refine ⟨fun s hs => (ho s).2 (.inl (h.all s hs)), fun s hs => ?_, fun j hj hm hin s hs => ?_⟩
  · rcases (ho s).1 hs with q | q
    · exact h.just s q
    · exact .step (List.getElem_mem hi) (h.just _ hn) q
  · by_cases e : j = i
    · subst e; exact (ho s).2 (.inr hs)
    · rcases (ho _).1 hin with q | q
      · exact (ho s).2 (.inl (h.shut j hj (by omega) q s hs))
      · obtain ⟨t, ht, hti, hte⟩ := hg.ahead i hi _ q
        have h1 := hg.one
        have ht' : t < (L.map (·.1)).length := by simpa using ht
        have hj' : j < (L.map (·.1)).length := by simpa using hj
        have : t = j := (List.getElem_inj h1 (h₀ := ht') (h₁ := hj')).1 (by simpa using hte)
        omega
theorem CvK.done {L : List Pn} {names o : List ByteArray} (h : CvK L names o 0) : ∀ s, s ∈ o ↔ Reach L names s := fun s => ⟨h.just s, fun hs => by
  induction hs with
  | base k => exact h.all _ k
  | step hp _ hs ih =>
    obtain ⟨j, hj, rfl⟩ := List.getElem_of_mem hp
    exact h.shut j hj (Nat.zero_le _) ih _ hs⟩
theorem CvK.start {L : List Pn} {names o : List ByteArray} (h : ∀ s, s ∈ o ↔ s ∈ names) : CvK L names o L.length := ⟨fun s hs => (h s).2 hs, fun s hs => .base ((h s).1 hs), fun j hj hm => by omega⟩
theorem closE_p {L : List Pv} {names : List ByteArray} (h : (packsE (pnL L)).1 ≠ 0) : closE L names = packsE (pnL L) := if_neg h
theorem closE_6 {L : List Pv} {names : List ByteArray} (h : (packsE (pnL L)).1 = 0) {s : ByteArray} (hs : s ∈ names) (hn : s ∉ nmL L) : closE L names = (6, -1) := by
  unfold closE
  rw [if_pos h, if_neg (fun q => hn (inB_iff.1 (List.all_eq_true.1 q s hs)))]
theorem closE_0 {L : List Pv} {names : List ByteArray} (h : (packsE (pnL L)).1 = 0) (hn : ∀ s ∈ names, s ∈ nmL L) : closE L names = (0, -1) := by
  unfold closE
  rw [if_pos h, if_pos (List.all_eq_true.2 (fun s hs => inB_iff.2 (hn s hs)))]
/-- A list of texts lies in no block of two numbers. -/
theorem txi_apart {W : World} {o : List ByteArray} {a : Option Addr} {k m n : Nat} {x y : Int} {T : TypeId} (h : TxI o (.slice a m k) W) (hb : Blk W n [.int .i64 x, .int .i64 y] T) : o = [] ∨ ∀ j, (Value.slice a m k).ownBlock = some j → j ≠ n := by
  by_cases h0 : o = []
  · exact .inl h0
  · right
    have hl : 0 < o.length := List.length_pos_iff.2 h0
    obtain ⟨b, off, rfl, hb1, hc⟩ := h.at hl
    intro j hj e
    simp only [Value.ownBlock, Option.some.injEq] at hj
    subst hj
    subst e
    unfold Blk at hb
    simp only [World.cell?, hb] at hc
    rcases off with _ | _ | off <;> simp at hc
theorem txi_set {W : World} {o : List ByteArray} {a : Option Addr} {k m n : Nat} {x y : Int} {T : TypeId} (h : TxI o (.slice a m k) W) (hb : Blk W n [.int .i64 x, .int .i64 y] T) (u v : Value) : TxI o (.slice a m k) ((W.setCell ⟨n, 0, none⟩ u).setCell ⟨n, 1, none⟩ v) := by
  rcases txi_apart h hb with rfl | hne
  · obtain ⟨⟨a', cap', he, h1, h2, h2', _⟩, hz⟩ := h
    exact ⟨⟨a', cap', he, h1, h2, h2', .inl rfl⟩, hz⟩
  · have hF : Fr (fun j => j = n) W ((W.setCell ⟨n, 0, none⟩ u).setCell ⟨n, 1, none⟩ v) := ((Fr.refl (fun j => j = n) W).setCell (p := ⟨n, 0, none⟩) (.inl rfl) u).setCell (p := ⟨n, 1, none⟩) (.inl rfl) v
    exact ⟨h.1.fr hF (fun j hj => hne j hj), h.2⟩
/-- What ClosureOf gives. -/
def CoP (L : List Pv) (names : List ByteArray) (w : World) (e : Ending) (w' : World) : Prop :=
  ∃ (c : List ByteArray) (a : Option Addr) (k : Nat), e = .returned (.tuple #[.slice a c.length k, fauV (closE L names)]) ∧ TxI c (.slice a c.length k) w' ∧ Below w.heap.size w w' ∧
    ((closE L names).1 = 0 → Up c ∧ ∀ s, s ∈ c ↔ Reach (pnL L) names s) ∧ ((closE L names).1 ≠ 0 → c = [])
/-- What the rounds keep besides their list. -/
structure CoK (w : World) (W : World) : Prop where
  below : Below w.heap.size w W
  res : Blk W w.heap.size [.int .i64 0, .int .i64 0] 33
theorem CoK.later {w : World} {W W' : World} (h : CoK w W) (hb : Below W.heap.size W W') : CoK w W' := ⟨below_step h.below hb, h.res.below hb h.res.lt⟩

set_option maxRecDepth 100000 in
set_option maxHeartbeats 40000000 in
theorem closureOf_any (L : List Pv) (names : List ByteArray) (v u : Value) (w : World) (h : PkI L v w) (hu : TxI names u w) (h5 : names.length ≤ 1000) :
    Calls Tryz.prog 14 #[v, u] w (CoP L names w) := by
  obtain ⟨a, cap, rfl⟩ := h.shape
  obtain ⟨ua, uc, rfl⟩ := hu.shape
  have hle := h.1.le
  have hbA : Below w.heap.size w (w.alloc (.cells #[.int .i64 0, .int .i64 0] 33)) := (Below.refl _ _).alloc (Nat.le_refl _) _
  have hres := Blk.new w [.int .i64 0, .int .i64 0] 33
  have HPF := hidd (packsFault_any L _ _ (h.ob hbA))
  have HH := hidd (fun W (hW : Below w.heap.size w W) => h.ob hW)
  have HU := hidd (fun W (hW : Below w.heap.size w W) => hu.ob hW)
  have HK0 : Hid (CoK w (w.alloc (.cells #[.int .i64 0, .int .i64 0] 33))) := hidd ⟨hbA, hres⟩
  clear h hu hbA hres
  go_enter Tryz.func14, Tryz.ntmps14
  go_wp2_with fail
  refine HPF.out.mono ?_
  rintro e w1 ⟨rfl, hb1⟩
  have hK1 := HK0.out.later hb1
  obtain ⟨R, hR⟩ : ∃ R, packsE (pnL L) = R := ⟨_, rfl⟩
  rw [hR]
  obtain ⟨c, at_⟩ := R
  unfold fauV
  simp only
  have hB2 : Below w1.heap.size w1 (w1.alloc (.cells #[.int .i64 (c : Int), .int .i64 at_] 33)) := (Below.refl _ _).alloc (Nat.le_refl _) _
  have hf := Blk.new w1 [.int .i64 (c : Int), .int .i64 at_] 33
  have hK2 := hK1.later hB2
  go_upto_region 2 with fail
  obtain ⟨fb, hfb⟩ : ∃ fb, w1.heap.size = fb := ⟨_, rfl⟩
  have HFB := hidd hfb
  rw [hfb] at hf ⊢
  generalize w1.alloc (.cells #[.int .i64 (c : Int), .int .i64 at_] 33) = w2 at *
  have c0 := hf.cell (i := 0) rfl
  by_cases hc : c = 0
  rotate_left
  · have q : (0 : Int) < (c : Int) := by omega
    have c1 := hf.cell (i := 1) rfl
    have hr1 := hK2.res
    have f0 := hr1.frozen 0
    have f1 := hr1.frozen 1
    have y0 := hr1.cell (i := 0) rfl
    have y1 := hr1.cell (i := 1) rfl
    have s2 := (hr1.set 0 (.int .i64 (c : Int))).set 1 (.int .i64 at_)
    have r0 := s2.cell (i := 0) rfl
    have r1 := s2.cell (i := 1) rfl
    have HB := hidd ((hK2.below.setCell (p := ⟨w.heap.size, 0, none⟩) (Nat.le_refl _) (.int .i64 (c : Int))).setCell (p := ⟨w.heap.size, 1, none⟩) (Nat.le_refl _) (.int .i64 at_))
    have HCE : Hid (closE L names = (c, at_)) := hidd (by rw [closE_p (by rw [hR]; exact hc), hR])
    clear hR hr1 s2 hK2 hK1 hB2 hf
    go_wp2_with fail
    go_region
    all_goals
      go_wp2_with fail
      refine bodyPost_ret (v := .tuple #[.slice none 0 0, fauV (c, at_)]) ?_ rfl ?_
      · rw [results_tmp_cell rfl]
        unfold fauV
        go_simp
      · exact ⟨[], none, 0, by rw [HCE.out]; rfl, txi_nil _, HB.out.drew, fun h => absurd (by rw [HCE.out] at h; exact h) hc, fun _ => rfl⟩
  have q0 : ¬ (0 : Int) < (c : Int) := by omega
  have hg : Good (pnL L) := good_of (by rw [hR]; exact hc)
  have hp0 : (packsE (pnL L)).1 = 0 := by rw [hR]; exact hc
  have HG := hidd hg
  have HP0 := hidd hp0
  have hl40 : L.length ≤ 40 := by have := hg.few; simpa [pnL] using this
  have HK2 := hidd hK2
  clear hR hg hp0 hB2 hK1 hf hc
  go_wp2_with fail
  clear c0 q0
  go_loopw [7, 8] (fun vo vi wr => ∃ (k : Nat) (oa : Option Addr) (oc : Nat) (o : List ByteArray), k ≤ names.length ∧ vi = .int .i64 (k : Int) ∧ vo = .slice oa o.length oc ∧ o.length ≤ k ∧ Up o ∧ (∀ s, s ∈ o ↔ s ∈ names.take k) ∧ (∀ s ∈ names.take k, s ∈ nmL L) ∧ TxI o (.slice oa o.length oc) wr ∧ CoK w wr) (fun _ vi _ => names.length - (intOf vi).toNat)
  case atStart => exact ⟨0, none, 0, [], Nat.zero_le _, rfl, rfl, Nat.le_refl _, List.Pairwise.nil, by simp, by simp, txi_nil _, HK2.out⟩
  case round =>
    obtain ⟨k, oa, oc, o, hk, rfl, rfl, hol, hup, hmem, hnm, htx, hK⟩ := hrel
    by_cases hlt : k < names.length
    · obtain ⟨b1, o1, rfl, hb1, a0⟩ := (HU.out wr hK.below).at hlt
      have hsz := (HU.out wr hK.below).2 _ (List.getElem_mem hlt)
      have p1 : (0 : Int) ≤ (k : Int) := by omega
      have p2 : (k : Int) < (names.length : Int) := by omega
      have htk : ∀ s, s ∈ names.take (k + 1) ↔ s ∈ names.take k ∨ s = names[k] := fun s => by rw [List.take_succ_eq_append_getElem hlt, List.mem_append, List.mem_singleton]
      have hmn : names[k] ∈ names := List.getElem_mem hlt
      have HLT := hidd hlt
      generalize names[k] = y at *
      have HFI := hidd (find_any L (.slice a L.length cap) y wr (HH.out wr hK.below))
      have HA := hidd (fun W (hW : Below wr.heap.size wr W) => (hW.cell (p := ⟨b1, o1 + k, none⟩) hb1).trans a0)
      have HKR := hidd hK
      have HTXR := hidd htx
      have HUP := hidd hup
      have HMEM := hidd hmem
      have HNM := hidd hnm
      have HTK := hidd htk
      have HMN := hidd hmn
      clear htk hmn htx hK hup hmem hnm hlt
      go_wp2_with fail
      refine HFI.out.mono ?_
      rintro e w3 ⟨j, rfl, hb3, hj1, hj2⟩
      have hK3 := HKR.out.later hb3
      have a3 := HA.out w3 hb3
      by_cases hin : y ∈ nmL L
      rotate_left
      · have q : j < 0 := hj2 hin
        have HCE : Hid (closE L names = (6, -1)) := hidd (closE_6 HP0.out HMN.out hin)
        have HK3 := hidd hK3
        clear hj1 hj2 hin hK3 HKR HFI hb3 a0
        go_wp2_with fail
        refine (bare_fn 6 _).mono ?_
        rintro e w4 ⟨rfl, hb4⟩
        have hK4 := HK3.out.later hb4
        have hr1 := hK4.res
        have f0 := hr1.frozen 0
        have f1 := hr1.frozen 1
        have y0 := hr1.cell (i := 0) rfl
        have y1 := hr1.cell (i := 1) rfl
        have s2 := (hr1.set 0 (.int .i64 6)).set 1 (.int .i64 (-1))
        have r0 := s2.cell (i := 0) rfl
        have r1 := s2.cell (i := 1) rfl
        have HB := hidd ((hK4.below.setCell (p := ⟨w.heap.size, 0, none⟩) (Nat.le_refl _) (.int .i64 6)).setCell (p := ⟨w.heap.size, 1, none⟩) (Nat.le_refl _) (.int .i64 (-1)))
        clear hr1 s2 hK4 hb4 HK3
        go_wp2_with fail
        refine bodyPost_ret (v := .tuple #[.slice none 0 0, fauV (6, -1)]) ?_ rfl ?_
        · rw [results_tmp_cell rfl]
          unfold fauV
          go_simp
        · exact ⟨[], none, 0, by rw [HCE.out]; rfl, txi_nil _, HB.out, fun h => absurd (by rw [HCE.out] at h; exact h) (by decide), fun _ => rfl⟩
      · have q : ¬ j < 0 := by have := hj1 hin; omega
        have HW := hidd (with_any o (.slice oa o.length oc) y w3 (HTXR.out.ob hb3) HUP.out hsz (by omega))
        have HIN := hidd hin
        have HK3 := hidd hK3
        clear hj1 hj2 hin hK3 HKR HFI hb3 a0 HTXR
        go_wp2_with fail
        refine HW.out.mono ?_
        rintro e w4 ⟨o2, ca, cc, rfl, hcx, hb4, hcu, hcm, hcl⟩
        have HK4 := hidd (HK3.out.later hb4)
        have HN : Hid (o2.length ≤ k + 1 ∧ Up o2 ∧ (∀ s, s ∈ o2 ↔ s ∈ names.take (k + 1)) ∧ (∀ s ∈ names.take (k + 1), s ∈ nmL L) ∧ TxI o2 (.slice ca o2.length cc) w4) := hidd ⟨by omega, hcu, fun s => by rw [hcm, HMEM.out, HTK.out], fun s hs => by
          rcases (HTK.out s).1 hs with q | rfl
          · exact HNM.out s q
          · exact HIN.out, hcx⟩
        clear hcx hcu hcm hcl hb4 HW HK3
        go_wp2_with fail
        go_roundw
        case rel => exact ⟨k + 1, ca, cc, o2, HLT.out, by go_num, rfl, HN.out.1, HN.out.2.1, HN.out.2.2.1, HN.out.2.2.2.1, HN.out.2.2.2.2, HK4.out⟩
        case measure => simp [intOf]; have := HLT.out; omega
    · have hkl : k = names.length := by omega
      subst hkl
      rw [List.take_of_length_le (Nat.le_refl _)] at hmem hnm
      have HCE : Hid (closE L names = (0, -1)) := hidd (closE_0 HP0.out hnm)
      have HCV : Hid (CvK (pnL L) names o L.length) := hidd (by
        have : (pnL L).length = L.length := by simp [pnL]
        rw [← this]
        exact CvK.start hmem)
      have HKR := hidd hK
      have HTXR := hidd htx
      have HUP := hidd hup
      clear htx hK hup hmem hnm hlt hk
      go_wp2_with fail
      obtain ⟨nn, hnn⟩ : ∃ nn, names.length = nn := ⟨_, rfl⟩
      have HNN := hidd hnn
      rw [hnn] at h5 hol ⊢
      clear hnn
      have hol0 : o.length + 20 * (L.length - L.length) ≤ nn + 20 * (L.length - L.length) := by omega
      go_loopw [7, 9] (fun vo vi wr => ∃ (m : Nat) (oa : Option Addr) (oc : Nat) (o : List ByteArray), m ≤ L.length ∧ vi = .int .i64 ((m : Int) - 1) ∧ vo = .slice oa o.length oc ∧ o.length ≤ nn + 20 * (L.length - m) ∧ Up o ∧ CvK (pnL L) names o m ∧ TxI o (.slice oa o.length oc) wr ∧ CoK w wr) (fun _ vi _ => (intOf vi + 1).toNat)
      case atStart => exact ⟨L.length, oa, oc, o, Nat.le_refl _, rfl, rfl, by omega, HUP.out, HCV.out, HTXR.out, HKR.out⟩
      case round =>
        clear hol hol0 HUP HCV HTXR HKR
        obtain ⟨m, oa, oc, o, hm, rfl, rfl, hol, hup, hcv, htx, hK⟩ := hrel
        obtain _ | i := m
        · have q : ¬ (0 : Int) ≤ ((0 : Nat) : Int) - 1 := by omega
          have HR : Hid (∀ s, s ∈ o ↔ Reach (pnL L) names s) := hidd hcv.done
          have HUP := hidd hup
          have HTXR := hidd htx
          have HKR := hidd hK
          clear hup hcv htx hK
          go_wp2_with fail
          refine (fine_fn _).mono ?_
          rintro e w4 ⟨rfl, hb4⟩
          have hK4 := HKR.out.later hb4
          have hr1 := hK4.res
          have f0 := hr1.frozen 0
          have f1 := hr1.frozen 1
          have y0 := hr1.cell (i := 0) rfl
          have y1 := hr1.cell (i := 1) rfl
          have s2 := (hr1.set 0 (.int .i64 0)).set 1 (.int .i64 (-1))
          have r0 := s2.cell (i := 0) rfl
          have r1 := s2.cell (i := 1) rfl
          have HB := hidd ((hK4.below.setCell (p := ⟨w.heap.size, 0, none⟩) (Nat.le_refl _) (.int .i64 0)).setCell (p := ⟨w.heap.size, 1, none⟩) (Nat.le_refl _) (.int .i64 (-1)))
          have HT4 := hidd (HTXR.out.ob hb4)
          have HTS := hidd (txi_set HT4.out hr1 (.int .i64 0) (.int .i64 (-1)))
          clear hr1 s2 hK4 hb4 HKR HTXR HT4
          go_wp2_with fail
          refine bodyPost_ret (v := .tuple #[.slice oa o.length oc, fauV (0, -1)]) ?_ rfl ?_
          · rw [results_tmp_cell rfl]
            unfold fauV
            go_simp
          · exact ⟨o, oa, oc, by rw [HCE.out], HTS.out, HB.out, fun _ => ⟨HUP.out, HR.out⟩, fun h => absurd (by rw [HCE.out]) h⟩
        · have q : (0 : Int) ≤ ((i + 1 : Nat) : Int) - 1 := by omega
          have hi : i < L.length := by omega
          obtain ⟨b1, o1, rfl, hb1, a0, a1, -⟩ := (HH.out wr hK.below).at hi
          have hok := (HH.out wr hK.below).2 _ (List.getElem_mem hi)
          have hpl : (pnL L).length = L.length := by simp [pnL]
          have hpi : (pnL L)[i]'(by omega) = L[i].pn := by simp [pnL]
          have hil : i < (pnL L).length := by omega
          have hno := fun hn => hcv.no (i := i) hil hn
          have hyes := fun hn o' => hcv.yes HG.out (o' := o') (i := i) hil hn
          have hless : L[i].refs.length ≤ 20 := HG.out.less L[i].pn (List.mem_map.2 ⟨L[i], List.getElem_mem hi, rfl⟩)
          rw [hpi] at hno hyes
          have p1 : (0 : Int) ≤ (i : Int) := by omega
          have p2 : (i : Int) < (L.length : Int) := by omega
          have p3 : ((i + 1 : Nat) : Int) - 1 = (i : Int) := by omega
          have HI := hidd hi
          have HOL := hidd hol
          generalize L[i] = pv at *
          obtain ⟨nm, ra, rc, rs, kk, dd, ee, ta, tn, tc⟩ := pv
          simp only [Pv.rv, Pv.pn] at a0 a1 hno hyes hless
          have hrt := hok.txi
          simp only [Pv.rv] at hrt
          have HTX := hidd (fun W (hW : Below wr.heap.size wr W) => hrt.ob hW)
          have HIT := hidd (inTexts_any o (.slice oa o.length oc) nm wr htx)
          have HNO := hidd hno
          have HYES := hidd hyes
          have HUP := hidd hup
          have HTXR := hidd (fun W (hW : Below wr.heap.size wr W) => htx.ob hW)
          have HA1 := hidd (fun W (hW : Below wr.heap.size wr W) => (hW.cell (p := ⟨b1, o1 + i * 6 + 1, none⟩) hb1).trans a1)
          have HKR := hidd hK
          have HCV := hidd hcv
          clear hno hyes hup htx hK hcv hok hrt hpi hpl hi hol hm hil
          rw [p3]
          clear p3 q
          cases hin : inB nm o
          · rw [hin] at HIT
            have HN := hidd (HNO.out (inB_no.1 hin))
            clear hin HNO HYES HCV
            go_wp2_with fail
            refine HIT.out.mono ?_
            rintro e w4 ⟨rfl, hb4⟩
            have HK4 := hidd (HKR.out.later hb4)
            have HT4 := hidd (HTXR.out _ hb4)
            clear hb4 HKR HTXR HIT
            go_wp2_with fail
            go_roundw
            case rel => exact ⟨i, oa, oc, o, by have := HI.out; omega, rfl, rfl, by have := HOL.out; have := HI.out; omega, HUP.out, HN.out, HT4.out, HK4.out⟩
            case measure => simp [intOf]
          · rw [hin] at HIT
            have HIN := hidd (inB_iff.1 hin)
            clear hin HNO
            go_wp2_with fail
            refine HIT.out.mono ?_
            rintro e w4 ⟨rfl, hb4⟩
            have HK4 := hidd (HKR.out.later hb4)
            have HT4 := hidd (HTXR.out _ hb4)
            have HX4 := hidd (fun W (hW : Below w4.heap.size w4 W) => HTX.out W (hb4.trans (hW.mono hb4.size)))
            have HA4 := hidd (fun W (hW : Below w4.heap.size w4 W) => HA1.out W (hb4.trans (hW.mono hb4.size)))
            clear hb4 HKR HTXR HIT HTX HA1 a0 a1
            go_wp2_with fail
            have hK4z := HK4.out
            go_loopw [7, 10] (fun vo vi wr => ∃ (j : Nat) (xa : Option Addr) (xc : Nat) (x : List ByteArray), j ≤ rs.length ∧ vi = .int .i64 (j : Int) ∧ vo = .slice xa x.length xc ∧ x.length ≤ o.length + j ∧ Up x ∧ (∀ s, s ∈ x ↔ s ∈ o ∨ s ∈ rs.take j) ∧ TxI x (.slice xa x.length xc) wr ∧ Below w4.heap.size w4 wr) (fun _ vi _ => rs.length - (intOf vi).toNat)
            case atStart => exact ⟨0, oa, oc, o, Nat.zero_le _, rfl, rfl, Nat.le_refl _, HUP.out, by simp, HT4.out, Below.refl _ _⟩
            case round =>
              clear HUP HT4
              obtain ⟨j, xa, xc, x, hj, rfl, rfl, hxl, hxu, hxm, htx, hbe⟩ := hrel
              have a1 := HA4.out wr hbe
              by_cases hlt : j < rs.length
              · obtain ⟨b2, o2, rfl, hb2, x0⟩ := (HX4.out wr hbe).at hlt
                have hyz := (HX4.out wr hbe).2 _ (List.getElem_mem hlt)
                have p5 : (0 : Int) ≤ (j : Int) := by omega
                have p6 : (j : Int) < (rs.length : Int) := by omega
                have htk : ∀ s, s ∈ rs.take (j + 1) ↔ s ∈ rs.take j ∨ s = rs[j] := fun s => by rw [List.take_succ_eq_append_getElem hlt, List.mem_append, List.mem_singleton]
                have HLT := hidd hlt
                have HOL' := HOL.out
                generalize rs[j] = y at *
                have HW := hidd (with_any x (.slice xa x.length xc) y wr htx hxu hyz (by omega))
                have HXM := hidd hxm
                have HTK := hidd htk
                have HBE := hidd hbe
                clear hxm htk htx hxu hlt hbe HOL'
                go_wp2_with fail
                refine HW.out.mono ?_
                rintro e w5 ⟨o3, ca, cc, rfl, hcx, hb5, hcu, hcm, hcl⟩
                have HN : Hid (o3.length ≤ o.length + (j + 1) ∧ Up o3 ∧ (∀ s, s ∈ o3 ↔ s ∈ o ∨ s ∈ rs.take (j + 1)) ∧ TxI o3 (.slice ca o3.length cc) w5) := hidd ⟨by omega, hcu, fun s => by rw [hcm, HXM.out, HTK.out, or_assoc], hcx⟩
                have HB5 := hidd (below_step HBE.out hb5)
                clear hcx hcu hcm hcl hb5 HW HBE
                go_wp2_with fail
                go_roundw
                case rel => exact ⟨j + 1, ca, cc, o3, HLT.out, by go_num, rfl, HN.out.1, HN.out.2.1, HN.out.2.2.1, HN.out.2.2.2, HB5.out⟩
                case measure => simp [intOf]; have := HLT.out; omega
              · have hkl : j = rs.length := by omega
                subst hkl
                rw [List.take_of_length_le (Nat.le_refl _)] at hxm
                have HN := hidd (HYES.out HIN.out x hxm)
                have HK5 := hidd (hK4z.later hbe)
                have HXU := hidd hxu
                have HTX5 := hidd htx
                have HXL := hidd hxl
                clear hxm hxu htx hbe hlt hj hxl hK4z
                go_wp2_with fail
                go_roundw
                case rel => exact ⟨i, xa, xc, x, by have := HI.out; omega, rfl, rfl, by have := HOL.out; have := HI.out; have := HXL.out; omega, HXU.out, HN.out, HTX5.out, HK5.out⟩
                case measure => simp [intOf]
end Go.Proofs.YtlcabkhalockpaaGreatDoor
