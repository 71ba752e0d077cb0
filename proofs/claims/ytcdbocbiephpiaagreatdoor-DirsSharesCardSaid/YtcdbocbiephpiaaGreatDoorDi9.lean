/- Dirs: Put, its three ways. Condition: the dirs and the tree are there. -/
import Derived.Test.YtcdbocbiephpiaaGreatDoorDi8
namespace Go.Proofs.YtcdbocbiephpiaaGreatDoor
open Go.RowKit Go.Shelf

theorem filesR_le {t : Lt} (h : treeE t = 0) : (filesR t).length ≤ 200 := by
  have h5 : (filesR t).length ≤ (preR t).length := List.length_filter_le _ _
  have h7 := pre_len ⟨#[]⟩ 0 t
  rw [pre_R, List.length_map] at h7
  have := (fine_of h).2
  omega
set_option maxRecDepth 100000 in
set_option maxHeartbeats 4000000 in
theorem dput_bad (E : Nat → Addr) (B : Nat) (d : Value) (t : Lt) (w : World) (ht : t.Ok w) (hE : Env diGs B w E) (h0 : treeE t ≠ 0) :
    Calls Tryz.prog 8 #[d, nval t] w fun e w' => e = .returned (.tuple #[.int .i64 0, evc E (treeE t)]) ∧ Below w.heap.size w w' := by
  obtain ⟨a, cap, hv⟩ := ht.shape
  have hB0 : Below w.heap.size w (w.alloc (.cells #[.string t.kind, .string t.data, .bool t.exec, .slice a t.kids.length cap] 24)) := (Below.refl _ _).alloc (Nat.le_refl _) _
  have hC := check_tr E B t _ (ht.ob hB0) (hE.ob hB0).di
  unfold nval at hC ⊢
  rw [hv] at hC ⊢
  rw [evc_ne h0] at hC ⊢
  have HC := hidd hC
  have HB0 := hidd hB0
  clear hC ht hE hv h0 hB0
  go_enter Tryz.func8, Tryz.ntmps8
  go_wp2_with fail
  refine HC.out.mono ?_
  rintro e w2 ⟨rfl, hb2⟩
  have HB2 := hidd (HB0.out.trans (hb2.mono HB0.out.size))
  clear hb2
  go_wp2_with fail
  go_ret2
  exact ⟨rfl, HB2.out⟩

set_option maxRecDepth 100000 in
set_option maxHeartbeats 4000000 in
theorem dput_full {pc : Prop} (E : Nat → Addr) (B : Nat) (L : Loc) (s : St) (t : Lt) (w : World) (ht : t.Ok w) (h : DiM pc w L s) (hE : Env diGs B w E) (h0 : treeE t = 0) (hf : nfree s.us < needS (listed t)) :
    Calls Tryz.prog 8 #[.pointer (some ⟨L.d, 0, none⟩), nval t] w fun e w' => e = .returned (.tuple #[.int .i64 0, .iface 242 (.pointer (some (E 0)))]) ∧ Below w.heap.size w w' := by
  obtain ⟨a, cap, hv⟩ := ht.shape
  have hB0 : Below w.heap.size w (w.alloc (.cells #[.string t.kind, .string t.data, .bool t.exec, .slice a t.kids.length cap] 24)) := (Below.refl _ _).alloc (Nat.le_refl _) _
  have hC := check_tr E B t _ (ht.ob hB0) (hE.ob hB0).di
  rw [h0, evc_zero] at hC
  have HND := hidd (fun W (hW : PtK w t.kind t.data t.exec a t.kids.length cap W) => need_dany E B t W (ht.ob hW.bel) ((hE.ob hW.bel).di))
  have HFR := hidd (fun W (hW : PtK w t.kind t.data t.exec a t.kids.length cap W) => ifree_any L.t L.p L.ps L.rs L.m s.us W (h.low hW.bel).tb.tab (h.low hW.bel).tb.sp)
  have HEE := hidd (fun W (hW : Below w.heap.size w W) => (hE.ob hW).cell _ di_full)
  have HC0 := hidd (fun W (hW : PtK w t.kind t.data t.exec a t.kids.length cap W) => (h.low hW.bel).c0)
  have hx := Blk.new w [.string t.kind, .string t.data, .bool t.exec, .slice a t.kids.length cap] 24
  have HK0 : Hid (PtK w t.kind t.data t.exec a t.kids.length cap (w.alloc (.cells #[.string t.kind, .string t.data, .bool t.exec, .slice a t.kids.length cap] 24))) := hidd ⟨hB0, hx⟩
  unfold erv at HEE
  unfold nval at hC HND ⊢
  rw [hv] at hC HND ⊢
  have HC := hidd hC
  obtain ⟨n, hn⟩ : ∃ n, needS (listed t) = n := ⟨_, rfl⟩
  obtain ⟨fr, hfr⟩ : ∃ n, nfree s.us = n := ⟨_, rfl⟩
  rw [hn] at HND
  rw [hfr] at HFR
  have hlt : fr < n := by omega
  have q1 : (fr : Int) < (n : Int) := by omega
  clear hC ht hE hv h0 hB0 h hf hn hfr hx
  go_enter Tryz.func8, Tryz.ntmps8
  go_wp2_with fail
  refine HC.out.mono ?_
  rintro e w2 ⟨rfl, hb2⟩
  have hK2 := HK0.out.later hb2
  have HK2 := hidd hK2
  have HKC : Hid (∀ W, PtK w t.kind t.data t.exec a t.kids.length cap W → W.cell? ⟨L.d, 0, none⟩ = some (.pointer (some ⟨L.t, 0, none⟩)) ∧ W.cell? ⟨w.heap.size, 0, none⟩ = some (.string t.kind) ∧ W.cell? ⟨w.heap.size, 1, none⟩ = some (.string t.data) ∧ W.cell? ⟨w.heap.size, 2, none⟩ = some (.bool t.exec) ∧ W.cell? ⟨w.heap.size, 3, none⟩ = some (.slice a t.kids.length cap)) := hidd (fun W hW => ⟨HC0.out W hW, hW.bx.cell rfl, hW.bx.cell rfl, hW.bx.cell rfl, hW.bx.cell rfl⟩)
  clear hb2 hK2 HK0 HC
  go_upto_region 4 with fail
  have hKd := HK2.out.later (Below.refl _ _).drew
  go_wp2_with fail
  go_region_held3 (fun W => W.cell? ⟨L.d, 0, none⟩ = some (.pointer (some ⟨L.t, 0, none⟩)) ∧ W.cell? ⟨w.heap.size, 0, none⟩ = some (.string t.kind) ∧ W.cell? ⟨w.heap.size, 1, none⟩ = some (.string t.data) ∧ W.cell? ⟨w.heap.size, 2, none⟩ = some (.bool t.exec) ∧ W.cell? ⟨w.heap.size, 3, none⟩ = some (.slice a t.kids.length cap))
    (first | exact HKC.out _ (by assumption))
    (first
      | (go_at_call 26; (with_reducible refine (HND.out _ (by assumption)).mono ?_); rintro e w9 ⟨rfl, hb9, -⟩; have hK9 := PtK.later (by assumption) hb9)
      | (go_at_call 27; (with_reducible refine (HFR.out _ (by assumption)).mono ?_); rintro e w9 ⟨rfl, hb9⟩; have hK9 := PtK.later (by assumption) hb9))
  all_goals
    have hB9 := hK9.bel
    have g1 := HEE.out w9 hB9
    have HB9 := hidd hB9
    clear hK9 hb9 hB9
    go_wp2_with fail
    go_quiet (fail)
    go_wp2_with fail
    go_ret2
    exact ⟨rfl, HB9.out.trans (Below.drewN _ _ _)⟩

/-- What a Put leaves. -/
def PtP (pc : Prop) (L : Loc) (s : St) (t : Lt) (w : World) (e : Ending) (w' : World) : Prop :=
  e = .returned (.tuple #[.int .i64 (s.nx : Int), .nilIface]) ∧ Fr (diS L s) w w' ∧ ∃ (e' : Dt) (s1 : St), e'.src = t.bare ∧ s1.D = s.D ∧ s1.nx = s.nx ∧ s1.nm = s.nm ∧ s1.N = s.N + (filesR t).length ∧ (∀ m x, s.T m = some x → s1.T m = some x) ∧ nfree s1.us + needS (listed t) = nfree s.us ∧
    DiAt pc w' L (putS s1 e') ∧ (∀ b, diS L (putS s1 e') b → diS L s b ∨ w.heap.size ≤ b)

set_option maxRecDepth 100000 in
set_option maxHeartbeats 16000000 in
theorem dput_ok {pc : Prop} (E : Nat → Addr) (B : Nat) (L : Loc) (s : St) (t : Lt) (w : World) (ht : t.Ok w) (hti : t.In (fun b => ¬ diS L s b)) (h : DiAt pc w L s) (hE : Env diGs B w E) (hEB : B ≤ L.B) (hM : Ml w) (hMl : 10 < L.B) (hLB : L.B ≤ w.heap.size) (hN : s.N ≤ 500000) (hnm : s.nm ≤ 500000) (hnx : s.nx ≤ 500000) (h0 : treeE t = 0) (hf : needS (listed t) ≤ nfree s.us) :
    Calls Tryz.prog 8 #[.pointer (some ⟨L.d, 0, none⟩), nval t] w (PtP pc L s t w) := by
  obtain ⟨a, cap, hv⟩ := ht.shape
  have hB0 : Below w.heap.size w (w.alloc (.cells #[.string t.kind, .string t.data, .bool t.exec, .slice a t.kids.length cap] 24)) := (Below.refl _ _).alloc (Nat.le_refl _) _
  have hC := check_tr E B t _ (ht.ob hB0) (hE.ob hB0).di
  rw [h0, evc_zero] at hC
  have HND := hidd (fun W (hW : PtK w t.kind t.data t.exec a t.kids.length cap W) => need_dany E B t W (ht.ob hW.bel) ((hE.ob hW.bel).di))
  have HFR := hidd (fun W (hW : PtK w t.kind t.data t.exec a t.kids.length cap W) => ifree_any L.t L.p L.ps L.rs L.m s.us W (h.low hW.bel).tb.tab (h.low hW.bel).tb.sp)
  have HC0 := hidd (fun W (hW : PtK w t.kind t.data t.exec a t.kids.length cap W) => (h.low hW.bel).c0)
  have HFL := hidd (fun W (hW : Below w.heap.size w W) => files_any E B t W (ht.ob hW) (hE.ob hW).di)
  have hx := Blk.new w [.string t.kind, .string t.data, .bool t.exec, .slice a t.kids.length cap] 24
  have HK0 : Hid (PtK w t.kind t.data t.exec a t.kids.length cap (w.alloc (.cells #[.string t.kind, .string t.data, .bool t.exec, .slice a t.kids.length cap] 24))) := hidd ⟨hB0, hx⟩
  unfold nval at hC HND HFL ⊢
  rw [hv] at hC HND HFL ⊢
  have HC := hidd hC
  obtain ⟨n, hn⟩ : ∃ n, needS (listed t) = n := ⟨_, rfl⟩
  obtain ⟨fr, hfr⟩ : ∃ n, nfree s.us = n := ⟨_, rfl⟩
  rw [hn] at HND
  rw [hfr] at HFR
  have q1 : ¬ ((fr : Int) < (n : Int)) := by omega
  have HH := hidd h
  have HQ := hidd (⟨ht, hti, hE, hM⟩ : t.Ok w ∧ t.In (fun b => ¬ diS L s b) ∧ Env diGs B w E ∧ Ml w)
  have HZ := hidd (⟨h0, hf, hv⟩ : treeE t = 0 ∧ needS (listed t) ≤ nfree s.us ∧ t.v = .slice a t.kids.length cap)
  have hfl := fileL_R h0
  rw [hfl] at HFL
  have HND2 : Hid (((filesR t).map fun x => pathOf (jt x.1)).Nodup) := hidd (by rw [← hfl]; exact fileL_nodup h0)
  clear hC ht hE hv h0 hB0 h hf hn hfr hx hM hti hfl
  go_enter Tryz.func8, Tryz.ntmps8
  go_wp2_with fail
  refine HC.out.mono ?_
  rintro e w2 ⟨rfl, hb2⟩
  have hK2 := HK0.out.later hb2
  have HK2 := hidd hK2
  have HKC : Hid (∀ W, PtK w t.kind t.data t.exec a t.kids.length cap W → W.cell? ⟨L.d, 0, none⟩ = some (.pointer (some ⟨L.t, 0, none⟩)) ∧ W.cell? ⟨w.heap.size, 0, none⟩ = some (.string t.kind) ∧ W.cell? ⟨w.heap.size, 1, none⟩ = some (.string t.data) ∧ W.cell? ⟨w.heap.size, 2, none⟩ = some (.bool t.exec) ∧ W.cell? ⟨w.heap.size, 3, none⟩ = some (.slice a t.kids.length cap)) := hidd (fun W hW => ⟨HC0.out W hW, hW.bx.cell rfl, hW.bx.cell rfl, hW.bx.cell rfl, hW.bx.cell rfl⟩)
  clear hb2 hK2 HK0 HC
  go_upto_region 4 with fail
  have hKd := HK2.out.later (Below.refl _ _).drew
  go_wp2_with fail
  go_region_held3 (fun W => W.cell? ⟨L.d, 0, none⟩ = some (.pointer (some ⟨L.t, 0, none⟩)) ∧ W.cell? ⟨w.heap.size, 0, none⟩ = some (.string t.kind) ∧ W.cell? ⟨w.heap.size, 1, none⟩ = some (.string t.data) ∧ W.cell? ⟨w.heap.size, 2, none⟩ = some (.bool t.exec) ∧ W.cell? ⟨w.heap.size, 3, none⟩ = some (.slice a t.kids.length cap))
    (first | exact HKC.out _ (by assumption))
    (first
      | (go_at_call 26; (with_reducible refine (HND.out _ (by assumption)).mono ?_); rintro e w9 ⟨rfl, hb9, -⟩; have hK9 := PtK.later (by assumption) hb9)
      | (go_at_call 27; (with_reducible refine (HFR.out _ (by assumption)).mono ?_); rintro e w9 ⟨rfl, hb9⟩; have hK9 := PtK.later (by assumption) hb9))
  all_goals
    have HK9 := hidd hK9
    have x9 := (HKC.out _ hK9).2
    obtain ⟨x0, x1, x2, x3⟩ := x9
    have hB9 := hK9.bel
    clear hK9 hb9 HFR HC0 HKC HK2 HND
    clear hKd
    have hy := HK9.out.bx.alloc (.map #[] 0)
    have hB10 : Below w.heap.size w (w9.alloc (.map #[] 0)) := hB9.alloc hB9.size _
    have hm10 : MapF (w9.alloc (.map #[] 0)) w9.heap.size 0 (fun _ => none) := ⟨[.int .i64 0], by simp, MapS.new _ _⟩
    have hz9 : w.heap.size ≤ w9.heap.size := hB9.size
    have y0 := hy.cell (i := 0) rfl
    have y1 := hy.cell (i := 1) rfl
    have y2 := hy.cell (i := 2) rfl
    have y3 := hy.cell (i := 3) rfl
    have HB10 := hidd hB10
    have HM10 := hidd hm10
    have HY := hidd hy
    clear x0 x1 x2 x3 hB9 hB10 hm10 hy
    have hmk : (Sem.run Tryz.prog (Instr.makeMap 80 none) w9) = .ok (.map (some w9.heap.size)) (w9.alloc (.map #[] 0)) := rfl
    go_wp2_with fail
    clear hmk
    refine (HFL.out _ HB10.out).mono ?_
    rintro e w11 ⟨v, rfl, hof, hb11⟩
    have hof' : Ow (fun g => w.heap.size ≤ g) w11 9 1 v (filesR t).length (tcells ((filesR t).map fun x => pathOf (jt x.1))) := by
      have := hof.mono (F' := fun g => w.heap.size ≤ g) (fun g hg => by have := HB10.out.size; omega)
      rw [List.length_map] at this
      exact this
    obtain ⟨fa, fc, rfl⟩ := hof'.shape
    have hB11 := HB10.out.trans (hb11.mono HB10.out.size)
    have HI0 : Hid (PtL pc L s t w t.kind t.data t.exec a t.kids.length cap w9.heap.size fa fc 0 s.T s.us s.ls (fun _ => none) w11) := hidd ⟨Nat.zero_le _, HY.out.below hb11 HY.out.lt, hof', HM10.out.low hb11, hz9, (HH.out.low hB11).tb, HH.out.sz, PutJ.zero _ _ _, Fr.ob hB11, fun b hb => .inl hb⟩
    clear hof hof' y0 y1 y2 y3 hb11 HM10 HY hB11 HB10 HFL HK9
    obtain ⟨m, hm⟩ : ∃ m, (filesR t).length = m := ⟨_, rfl⟩
    have HMM := hidd hm
    try rw [List.length_map]
    rw [hm]
    clear hm
    go_wp2_with fail
    go_loopw [9, 10, 11, 30] (fun _ _ _ i wr => ∃ (k : Nat) (Tk : Nat → Option Ino) (uk : List Bool) (lk : List ByteArray) (Fk : ByteArray → Option Nat), i = .int .i64 (k : Int) ∧ PtL pc L s t w t.kind t.data t.exec a t.kids.length cap w9.heap.size fa fc k Tk uk lk Fk wr) (fun _ _ _ i _ => m - (intOf i).toNat)
    case atStart => exact ⟨0, s.T, s.us, s.ls, _, rfl, HI0.out⟩
    case round =>
      obtain ⟨k, Tk, uk, lk, Fk, rfl, hI⟩ := hrel
      clear HI0
      have hk := hI.le
      have hm2 : m ≤ 200 := by rw [← HMM.out]; exact filesR_le HZ.out.1
      rw [HMM.out] at hk
      by_cases hlt : k < m
      · have hlt' : k < (filesR t).length := by rw [HMM.out]; exact hlt
        have hpl : ∀ b, (b = L.p ∨ b = L.r ∨ b = L.rs ∨ b = L.m) → L.B ≤ b ∧ b < w.heap.size ∧ tbS L.p L.r L.rs L.m s.T b := by
          have hb := HH.out.tb.base
          obtain ⟨n0, -, hmm⟩ := HH.out.tb.mp
          rintro b (rfl | rfl | rfl | rfl)
          · exact ⟨hb.1, HH.out.tb.dk.head.lt, .inl rfl⟩
          · exact ⟨hb.2.1, HH.out.tb.dk.row.lt, .inr (.inl rfl)⟩
          · exact ⟨hb.2.2.2.1, HH.out.tb.sp.row.lt, .inr (.inr (.inl rfl))⟩
          · exact ⟨hb.2.2.2.2.1, hmm.lt, .inr (.inr (.inr (.inl rfl)))⟩
        have hbr : Below L.B w wr := hI.fr.below hLB (fun b hb => (hpl b hb).1)
        have htr : t.Ok wr := ok_fr hI.fr _ HQ.out.1 (in_mono (fun b hb e' => hb (.inl (hpl b e').2.2)) _ HQ.out.2.1)
        have hEr : Env diGs B wr E := HQ.out.2.2.1.below hbr hEB
        have hMr : Ml wr := by
          obtain ⟨mv, hmv⟩ := HQ.out.2.2.2
          exact ⟨mv, (hbr.cell (p := ⟨10, 0, none⟩) hMl).trans hmv⟩
        obtain ⟨b, off, rfl, hbw, hcl, hrd⟩ := hI.rows.sl.at1 hlt'
        obtain ⟨hg1, -⟩ := filesR_get HZ.out.1 (List.getElem_mem hlt')
        obtain ⟨hf1, hf2⟩ := file_fine HZ.out.1 (List.getElem_mem hlt')
        have hcs : (tcells ((filesR t).map fun x => pathOf (jt x.1)))[k] = .string (pathOf (jt (filesR t)[k].1)) := by simp [tcells]
        rw [hcs] at hrd
        have hG := get_any E B t (pathOf (jt (filesR t)[k].1)) wr htr hEr.di hMr (by omega)
        unfold nval at hG
        rw [HZ.out.2.2] at hG
        have HGO := hidd hg1
        have hnd : needN (filesR t)[k].2.data.size ≤ nfree uk := by
          have h1 : nfree uk + (((filesR t).take k).map fun x => needN x.2.data.size).sum = nfree s.us := hI.j.fre
          have h2 : (((filesR t).take k).map fun x => needN x.2.data.size).sum + needN (filesR t)[k].2.data.size ≤ ((filesR t).map fun x => needN x.2.data.size).sum := sum_take (fun x : List ByteArray × Lt => needN x.2.data.size) hlt'
          have h3 := HZ.out.2.1
          rw [needS_R HZ.out.1] at h3
          omega
        have HND3 := hidd hnd
        have HF1 := hidd hf1
        have hc0 : wr.cell? ⟨L.d, 0, none⟩ = some (.pointer (some ⟨L.t, 0, none⟩)) := by
          refine hI.fr.cell HH.out.c0 (fun e' => ?_)
          have h1 := tbS_cells (notTb_dir HH.out.tb HH.out.bk)
          exact h1 (hpl _ e').2.2
        obtain ⟨q, hq⟩ : ∃ q, pathOf (jt (filesR t)[k].1) = q := ⟨_, rfl⟩
        have HQQ := hidd hq
        rw [hq] at hrd hG HGO hf2
        have HG := hidd hG
        have x0 := hI.bx.cell (i := 0) rfl
        have x1 := hI.bx.cell (i := 1) rfl
        have x2 := hI.bx.cell (i := 2) rfl
        have x3 := hI.bx.cell (i := 3) rfl
        have p1 : (0 : Int) ≤ (k : Int) := by omega
        have p2 : (k : Int) < (m : Int) := by omega
        have HI := hidd hI
        have HPL := hidd hpl
        clear hpl hbr htr hEr hMr hG hg1 hf1 hcs hnd hq hcl hI
        go_wp2_with fail
        refine HG.out.mono ?_
        rintro e w3 ⟨hb3, hr⟩
        rcases hr with ⟨c, hc1, -⟩ | ⟨x, y, hx, -, heq, hyb, hyo, -⟩
        · rw [HGO.out] at hc1; cases hc1
        rw [HGO.out] at hx
        obtain rfl := Except.ok.inj hx
        have hyd : y.data = (filesR t)[k].2.data := by
          have := congrArg Tr.data hyb
          rw [show y.bare.data = y.data from Tr.data_map _ _, show (filesR t)[k].2.bare.data = (filesR t)[k].2.data from Tr.data_map _ _] at this
          exact this
        have hye : y.exec = (filesR t)[k].2.exec := by
          have := congrArg Tr.exec hyb
          rw [show y.bare.exec = y.exec from Tr.exec_map _ _, show (filesR t)[k].2.bare.exec = (filesR t)[k].2.exec from Tr.exec_map _ _] at this
          exact this
        obtain ⟨ya, yc, hyv⟩ := hyo.shape
        obtain ⟨ky, dy, ey, vy, ksy⟩ := y
        simp only [Tr.v, Tr.kids] at hyv
        subst hyv
        have he2 : e = .returned (.tuple #[.agg #[.string ky, .string dy, .bool ey, .slice ya ksy.length yc], .nilIface]) := heq
        subst he2
        clear heq
        have hIr := HI.out
        have hB4 : Below wr.heap.size wr (w3.alloc (.cells #[.string ky, .string dy, .bool ey, .slice ya ksy.length yc] 24)) := hb3.alloc hb3.size _
        have hz4 := hB4.size
        have hxb := Blk.new w3 [.string ky, .string dy, .bool ey, .slice ya ksy.length yc] 24
        have c4 : (w3.alloc (.cells #[.string ky, .string dy, .bool ey, .slice ya ksy.length yc] 24)).cell? ⟨L.d, 0, none⟩ = some (.pointer (some ⟨L.t, 0, none⟩)) := (hB4.cell (p := ⟨L.d, 0, none⟩) (World.block_lt_of_cell? wr _ hc0)).trans hc0
        have hzw := hIr.fr.size
        have hMK := make_okb L.B L.t L.p L.r L.ps L.rs L.m (s.N + k) Tk uk lk dy ey (w3.alloc (.cells #[.string ky, .string dy, .bool ey, .slice ya ksy.length yc] 24)).drew (hIr.tb.ob hB4.drew) (by have := filesR_le HZ.out.1; omega) (by show L.B ≤ (w3.alloc _).heap.size; omega) (by rw [show dy = (filesR t)[k].2.data from hyd]; exact HF1.out) (by rw [show dy = (filesR t)[k].2.data from hyd]; exact HND3.out)
        have HMK := hidd hMK
        have HMF := hidd (hIr.mp.low hB4.drew)
        have HB4 := hidd hB4
        have HYD : Hid (dy = (filesR t)[k].2.data) := hidd hyd
        have HYE : Hid (ey = (filesR t)[k].2.exec) := hidd hye
        clear hMK hyo hb3 hB4 hyb hIr hyd hye
        go_upto_region 13 with fail
        generalize w3.alloc (.cells #[.string ky, .string dy, .bool ey, .slice ya ksy.length yc] 24) = w4 at *
        have z0 := hxb.cell (i := 0) rfl
        have z1 := hxb.cell (i := 1) rfl
        have z2 := hxb.cell (i := 2) rfl
        clear x0 x1 x2 x3 hc0 hrd
        have HN := hidd hN
        have HHH := hidd (fun (W W' : World) (hb : Below w4.heap.size w4.drew W) (hf : Fr (fun b => b = L.p ∨ b = L.r ∨ b = L.rs ∨ b = L.m) w4.drew W') => True.intro)
        clear HHH
        have HFM := hidd (fun (W : World) (hf : Fr (fun b => b = L.p ∨ b = L.r ∨ b = L.rs ∨ b = L.m) w4.drew W) (k0 : Nat) => (HMF.out.fr hf (fun e' => by have := HPL.out _ e'; omega)).store (by have := filesR_le HZ.out.1; have := HI.out.le; omega) q k0 (by omega))
        go_region_law (first
          | (go_simp; go_at_call 29; (with_reducible refine HMK.out.mono ?_); rintro e w5 ⟨k0, xx, rfl, m1, m2, m3, m4, m5, m6, m7, m8, m9, m10, m11⟩; obtain ⟨w6, hrun, hm6, hf6⟩ := HFM.out w5 m9 k0))
        all_goals
          have hIr := HI.out
          have hw45 : Below wr.heap.size wr w4.drew := HB4.out.drew
          have hmfl := hIr.mfl
          have hne : ∀ b, (b = L.p ∨ b = L.r ∨ b = L.rs ∨ b = L.m) → b < w.heap.size := fun b hb => (HPL.out b hb).2.1
          have f5 : Fr (fun b => b = L.p ∨ b = L.r ∨ b = L.rs ∨ b = L.m) w w5 := (hIr.fr.trans (Fr.ob hw45)).trans m9
          have f6 : Fr (fun b => b = L.p ∨ b = L.r ∨ b = L.rs ∨ b = L.m) w w6 := f5.trans' hf6 (fun _ _ h => h) (fun b hb e => by omega)
          have hm5 : MapF w5 w9.heap.size k Fk := HMF.out.fr m9 (fun e' => by have := hne _ e'; omega)
          have hnt := notTb_map m8 hm5.noc (fun e' => by have := hne _ (.inr (.inr (.inr e'))); omega)
          have t6 := tb_fr m8 hf6 (fun b hb => by rw [hb]; exact hnt)
          have b5 := (hIr.bx.below hw45 hIr.bx.lt).fr m9 (fun e' => by have := hne _ e'; omega)
          have b6 := b5.fr hf6 (fun e' => noc_blk b5 hm5.noc e'.symm)
          have o5 := (hIr.rows.ob hw45).fr m9 (fun g hg e' => by have := hne _ e'; have := (hIr.rows.blk g hg).1; omega)
          have o6 := o5.fr hf6 (fun g hg e' => own_ne_any o5 hm5.noc (by rw [← e']; exact hg))
          have HI2 : Hid (PtL pc L s t w t.kind t.data t.exec a t.kids.length cap w9.heap.size (some ⟨b, off, none⟩) fc (k + 1) (upd Tk k0 (some xx)) (tk uk (needN dy.size) uk.length).2 (lsN lk xx.bl dy xx.bl.length) (setF Fk q k0) w6) := hidd {
            le := hlt'
            bx := b6
            rows := o6
            mp := hm6
            mfl := hmfl
            tb := t6
            sz := hIr.sz.lsN _ _ _
            j := by
              have := hIr.j.next hlt' HND2.out m2 (by rw [m4]; exact HYD.out) (by rw [m5]; exact HYE.out) m6 (uk := (tk uk (needN dy.size) uk.length).2) (by
                have hnn : needN dy.size ≤ nfree uk := by rw [HYD.out]; exact HND3.out
                rw [nfree_tk uk _ hnn]
                show nfree uk - needN dy.size + needN (filesR t)[k].2.data.size = nfree uk
                rw [← HYD.out]
                omega)
              rw [HQQ.out] at this
              exact this
            fr := f6
            new := by
              rintro b' (hb | hb | hb | hb | ⟨i, y, hy, hb⟩)
              · exact .inl (.inl hb)
              · exact .inl (.inr (.inl hb))
              · exact .inl (.inr (.inr (.inl hb)))
              · exact .inl (.inr (.inr (.inr (.inl hb))))
              · by_cases ei : i = k0
                · subst ei
                  rw [upd_same] at hy
                  obtain rfl := Option.some.inj hy
                  right
                  have h1 := hIr.fr.size
                  have h2 := hw45.size
                  omega
                · rw [upd_other _ _ _ ei] at hy
                  exact hIr.new b' (.inr (.inr (.inr (.inr ⟨i, y, hy, hb⟩)))) }
          clear hIr hw45 hmfl hne f5 f6 hm5 hnt t6 b5 b6 o5 o6 m1 m2 m3 m4 m5 m6 m7 m8 m9 m10 m11 hm6 hf6 hrun z0 z1 z2 c4 hxb
          go_wp2_with fail
          go_roundw
          case rel => exact ⟨k + 1, _, _, _, _, by go_num, HI2.out⟩
          case measure => simp [intOf]; omega
      · obtain rfl : k = m := by omega
        have hlk : (filesR t).length = k := HMM.out
        have hpl : ∀ b, (b = L.p ∨ b = L.r ∨ b = L.rs ∨ b = L.m) → L.B ≤ b ∧ b < w.heap.size ∧ tbS L.p L.r L.rs L.m s.T b := by
          have hb := HH.out.tb.base
          obtain ⟨n0, -, hmm⟩ := HH.out.tb.mp
          rintro b (rfl | rfl | rfl | rfl)
          · exact ⟨hb.1, HH.out.tb.dk.head.lt, .inl rfl⟩
          · exact ⟨hb.2.1, HH.out.tb.dk.row.lt, .inr (.inl rfl)⟩
          · exact ⟨hb.2.2.2.1, HH.out.tb.sp.row.lt, .inr (.inr (.inl rfl))⟩
          · exact ⟨hb.2.2.2.2.1, hmm.lt, .inr (.inr (.inr (.inl rfl)))⟩
        have htr : t.Ok wr := ok_fr hI.fr _ HQ.out.1 (in_mono (fun b hb e' => hb (.inl (hpl b e').2.2)) _ HQ.out.2.1)
        have hM1 : DiM pc wr L { s with N := s.N + k, T := Tk, us := uk, ls := lk } := HH.out.toDiM.table (hI.fr.mono (fun b _ hb => (hpl b hb).2.2)) (Nat.le_add_right _ _) hI.tb hI.sz hI.new
        have hBR := bare_any 200 t wr.drew (fine_of HZ.out.1).2 (by omega) (htr.ob (Below.refl _ _).drew)
        unfold nval at hBR
        rw [HZ.out.2.2] at hBR
        have HBR := hidd hBR
        have c1 := hM1.c1
        have c2 := hM1.c2
        have x0 := hI.bx.cell (i := 0) rfl
        have x1 := hI.bx.cell (i := 1) rfl
        have x2 := hI.bx.cell (i := 2) rfl
        have x3 := hI.bx.cell (i := 3) rfl
        have HM1 := hidd hM1
        have HI := hidd hI
        have HPL := hidd hpl
        have HMP : Hid (∀ W, Below wr.heap.size wr.drew W → ∀ (a2 : Option Addr) (c2 : Nat) (ks2 : List (ByteArray × Lt)), ∃ w', (Instr.mapUpdate 76 (.map (some L.mb)) (.int .i64 (s.nx : Int)) (.agg #[.string t.kind, .string (bd t), .bool t.exec, .slice a2 ks2.length c2, .map (some w9.heap.size)])).run Tryz.prog W = .ok () w' ∧
            MapD w' L.mb (s.nm + 1) (updD s.D s.nx (some ⟨.mk t.kind (bd t) t.exec (.slice a2 ks2.length c2) ks2, w9.heap.size, t.bare, Fk⟩)) ∧ Fr (fun b => b = L.mb) W w') := hidd (fun W hW a2 c2 ks2 => (HM1.out.mp.low ((Below.refl _ _).drew.trans hW)).store (by show s.nm ≤ 1000000; omega) s.nx ⟨.mk t.kind (bd t) t.exec (.slice a2 ks2.length c2) ks2, w9.heap.size, t.bare, Fk⟩ ⟨by omega, by omega⟩)
        have HCC := hidd (fun W (hW : Below wr.heap.size wr.drew W) => (⟨(HM1.out.low ((Below.refl _ _).drew.trans hW)).c1, (HM1.out.low ((Below.refl _ _).drew.trans hW)).c2⟩ : W.cell? ⟨L.d, 1, none⟩ = some (.map (some L.mb)) ∧ W.cell? ⟨L.d, 2, none⟩ = some (.int .i64 (s.nx : Int))))
        obtain ⟨bdt, hbd⟩ : ∃ x, bd t = x := ⟨_, rfl⟩
        have HBD := hidd hbd
        unfold BareP at HBR
        rw [hbd] at HBR HMP
        clear hbd hI hM1 hBR htr hpl hlt
        go_upto_region 17 with fail
        go_region_law (first
          | (go_simp; go_at_call 30; (with_reducible refine HBR.out.mono ?_); rintro e w5 ⟨a2, c2', ks2, rfl, b1, b2, b3, b4⟩; obtain ⟨cc1, cc2⟩ := HCC.out w5 b4; obtain ⟨w6, hrun, hmp6, hf6⟩ := HMP.out w5 b4 a2 c2' ks2))
        all_goals
          have hM5 := HM1.out.low ((Below.refl _ _).drew.trans b4)
          have hI := HI.out
          have hk6 := hM5.bk.fr hf6 (fun e' => noc_blk hM5.bk hM5.mp.noc e'.symm)
          have g2 := hk6.cell (i := 2) rfl
          have k2 := hk6.frozen 2
          have hk7 := hk6.set 2 (.int .i64 ((s.nx + 1 : Nat) : Int))
          have g7 := hk7.cell (i := 2) rfl
          have r1 : IntKind.i64.wrap ((s.nx : Int) + 1) = ((s.nx + 1 : Nat) : Int) := by rw [i64_in _ (by omega)]; omega
          have r2 : IntKind.i64.wrap (((s.nx + 1 : Nat) : Int) - 1) = (s.nx : Int) := by rw [i64_in _ (by omega)]; omega
          have HPP : Hid (PtP pc L s t w (.returned (.tuple #[.int .i64 (s.nx : Int), .nilIface])) (w6.setCell ⟨L.d, 2, none⟩ (.int .i64 ((s.nx + 1 : Nat) : Int)))) := hidd (by
            have hz5 := b4.size
            have hz0 := hI.fr.size
            have hmfl := hI.mfl
            have hmlt := hI.mp.lt
            have hmf5 : MapF w5 w9.heap.size k Fk := hI.mp.low ((Below.refl _ _).drew.trans b4)
            have hd5 := hM5.bk.lt
            have hbk := HH.out.bk.lt
            have hmbl := HH.out.mp.lt
            have hmbd : L.mb ≠ L.d := noc_blk hM5.bk hM5.mp.noc
            have hf7 : Fr (fun b => b = L.mb ∨ b = L.d) w5 (w6.setCell ⟨L.d, 2, none⟩ (.int .i64 ((s.nx + 1 : Nat) : Int))) := (hf6.mono (fun _ _ h => .inl h)).setCell (p := ⟨L.d, 2, none⟩) (.inl (.inr rfl)) _
            have hfd : Fr (fun b => b = L.d) w6 (w6.setCell ⟨L.d, 2, none⟩ (.int .i64 ((s.nx + 1 : Nat) : Int))) := (Fr.refl (fun b => b = L.d) w6).setCell (p := ⟨L.d, 2, none⟩) (.inl rfl) _
            have hml : L.m < w.heap.size := by obtain ⟨n0, -, hmm⟩ := HH.out.tb.mp; exact hmm.lt
            obtain ⟨q1', q2', q3'⟩ := PutJ.done HZ.out.1 (F := Fk) (by rw [hlk]; exact hI.j) (.mk t.kind bdt t.exec (.slice a2 ks2.length c2') ks2) w9.heap.size
            have hdlt : ∀ b, diS L { s with N := s.N + k, T := Tk, us := uk, ls := lk } b → b < wr.heap.size := fun b hb => by
              rcases hb with (hb | hb | hb | hb | ⟨i, y, hy, hb⟩) | hb | hb | ⟨i, f, hf', hb⟩
              · have := (HPL.out b (.inl hb)).2.1; omega
              · have := (HPL.out b (.inr (.inl hb))).2.1; omega
              · have := (HPL.out b (.inr (.inr (.inl hb)))).2.1; omega
              · have := (HPL.out b (.inr (.inr (.inr hb)))).2.1; omega
              · rw [hb]; exact (hI.tb.ino i y hy).blk.lt
              · omega
              · omega
              · rw [hb]; have := (HH.out.fms i f hf').lt; omega
            have hput := hM5.put (e := ⟨.mk t.kind bdt t.exec (.slice a2 ks2.length c2') ks2, w9.heap.size, t.bare, Fk⟩) hf7 (hmp6.fr hfd hmbd) hk7
              ((((hmf5.fr hf6 (fun e' => by have e2 : w9.heap.size = L.mb := e'; omega)).fr hfd (fun e' => by have e2 : w9.heap.size = L.d := e'; omega))).mono (by show k ≤ s.N + k; omega))
              (ok_fr hf7 _ b2 (in_mono (fun b hb e' => by have : wr.heap.size ≤ b := hb.1; rcases e' with e' | e' <;> omega) _ b3))
              (in_mono (fun b hb => ⟨fun e' => by have : wr.heap.size ≤ b := hb.1; have := hdlt b e'; omega, by have : wr.heap.size ≤ b := hb.1; show b ≠ w9.heap.size; omega⟩) _ b3)
              (by show L.B ≤ w9.heap.size; omega)
              ⟨notTb_map hM5.tb hmf5.noc (by show w9.heap.size ≠ L.m; omega), by show w9.heap.size ≠ L.d; omega, by show w9.heap.size ≠ L.mb; omega, fun i f hf' => by have := (HH.out.fms i f hf').lt; show w9.heap.size ≠ f.fm; omega⟩
              (fun i f hf' => in_mono (fun b hb => by show b ≠ w9.heap.size; omega) _ (ok_in _ (HH.out.tr i f hf')))
            refine ⟨rfl, ?_, ⟨.mk t.kind bdt t.exec (.slice a2 ks2.length c2') ks2, w9.heap.size, t.bare, Fk⟩, { s with N := s.N + k, T := Tk, us := uk, ls := lk }, rfl, rfl, rfl, rfl, by rw [hlk], hI.j.old, ?_, { toDiM := hput, well := ?_, lnk := ?_, dat := ?_ }, ?_⟩
            · exact ((hI.fr.mono (T := diS L s) (fun b _ hb => .inl (HPL.out b hb).2.2)).trans (Fr.ob ((Below.refl _ _).drew.trans b4))).trans' hf7 (fun _ _ h => h) (fun b _ h => h.elim (fun h => .inr (.inr (.inl h))) (fun h => .inr (.inl h)))
            · have h1 := hI.j.fre
              rw [← hlk, List.take_of_length_le (Nat.le_refl _)] at h1
              rw [needS_R HZ.out.1]
              exact h1
            · intro i f hi
              rcases updD_cases hi with ⟨rfl, h1⟩ | ⟨-, h1⟩
              · cases h1
                exact ⟨by rw [show t.bare = t.map fun _ => () from rfl, treeE_map]; exact HZ.out.1, b1, q1'⟩
              · exact HH.out.well i f h1
            · exact HH.out.lnk.put q2'
            · intro hpc i f hi
              rcases updD_cases hi with ⟨rfl, h1⟩ | ⟨-, h1⟩
              · cases h1; exact q3'
              · exact (HH.out.dat hpc i f h1).more hI.j.old (fun q' m' hq' => by obtain ⟨x, hx, -⟩ := HH.out.ino h1 hq'; exact ⟨x, hx⟩)
            · rintro b (hb | hb | hb | ⟨i, f, hi, rfl⟩)
              · exact (hI.new b hb).imp .inl id
              · exact .inl (.inr (.inl hb))
              · exact .inl (.inr (.inr (.inl hb)))
              · rcases updD_cases hi with ⟨rfl, h1⟩ | ⟨-, h1⟩
                · cases h1; exact .inr hmfl
                · exact .inl (.inr (.inr (.inr ⟨i, f, h1, rfl⟩))))
          clear hM5 hI hk6 hk7 b1 b2 b3 b4 hmp6 hf6 hrun c1 c2 cc1 cc2 x0 x1 x2 x3
          go_wp2_with fail
          go_ret2
          exact HPP.out
end Go.Proofs.YtcdbocbiephpiaaGreatDoor
