/- The contract of the reference's changeOf. Condition: the tree and the change are there, the path is short. · The contracts of the reference's Bare, Fine and ApplyOf. Condition: the tree and the changes are there, the paths are short. -/
import Derived.Test.YtoaedkinlnkkhaaGreatDoorDfC
import Derived.Test.YtoaedkinlnkkhaaGreatDoorRgD
namespace Go.Proofs.YtoaedkinlnkkhaaGreatDoor
open Go.RowKit Go.Shelf
set_option maxRecDepth 100000 in
set_option maxHeartbeats 40000000 in
theorem rchange_any (t : Lt) (c : Ch Value) (w : World) (ht : t.Ok w) (hc : c.n.Ok w) (hs : c.path.size ≤ 1000000) :
    Calls Tryz.prog 34 #[nval t, cval c] w (CgP numV (changeOf t.bare c.bare) (fun y => ∀ F : Nat → Prop, t.In F → c.n.In F → y.In (fun b => F b ∨ w.heap.size ≤ b)) w) := by
  obtain ⟨ta, tc, htv⟩ := ht.shape
  obtain ⟨na, nc, hnv⟩ := hc.shape
  obtain ⟨kt, dt, et, vt, kst⟩ := t
  obtain ⟨kc, pc, ⟨kn, dn, en, vn, ksn⟩⟩ := c
  simp only [Tr.v, Tr.kids] at htv hnv hs
  subst htv hnv
  have hK := ChK.start w kt dt et ta tc kst kc pc kn dn en na nc ksn ht hc
  have HTI := hidd (ok_in _ ht)
  have HNI := hidd (ok_in _ hc)
  have HG := hidd (fun W (h : ChK w (.mk kt dt et (.slice ta kst.length tc) kst) ⟨kc, pc, .mk kn dn en (.slice na ksn.length nc) ksn⟩ W) => rget_any _ pc W h.ot hs)
  have HP := hidd (fun W (h : ChK w (.mk kt dt et (.slice ta kst.length tc) kst) ⟨kc, pc, .mk kn dn en (.slice na ksn.length nc) ksn⟩ W) => rput_any _ _ pc W h.ot h.oc hs)
  have HD := hidd (fun W (h : ChK w (.mk kt dt et (.slice ta kst.length tc) kst) ⟨kc, pc, .mk kn dn en (.slice na ksn.length nc) ksn⟩ W) => rdrop_any _ pc W h.ot hs)
  have HS := hidd (fun W r (h : ChK w (.mk kt dt et (.slice ta kst.length tc) kst) ⟨kc, pc, .mk kn dn en (.slice na ksn.length nc) ksn⟩ W) hr => sameTree_any _ _ zLt W r (Nat.le_refl _) h.oc (zLt_ok W) hr)
  unfold cval nval at *
  unfold zLt at HS
  simp only [Tr.kind, Tr.data, Tr.exec, Tr.v] at HG HP HD HS ⊢
  have HK := hidd hK
  clear ht hc hs hK
  have hK := HK.out
  have x0 := hK.bt.cell (i := 0) rfl
  have x1 := hK.bt.cell (i := 1) rfl
  have x2 := hK.bt.cell (i := 2) rfl
  have x3 := hK.bt.cell (i := 3) rfl
  have z0 := hK.bc.cell (i := 0) rfl
  have z1 := hK.bc.cell (i := 1) rfl
  have z2 := hK.bc.cell (i := 2) rfl
  have z3 := hK.bc.cell (i := 3) rfl
  have z4 := hK.bc.cell (i := 4) rfl
  have z5 := hK.bc.cell (i := 5) rfl
  simp only [Tr.kind, Tr.data, Tr.exec, Tr.v] at x0 x1 x2 x3 z0 z1 z2 z3 z4 z5
  clear hK
  go_enter Tryz.func34, Tryz.ntmps34
  go_wp2_with fail
  refine (HG.out _ HK.out).mono ?_
  intro e w3 hyy
  obtain ⟨ky, dy, ey, ya, yc, ksy, cg, he, hb3, hc10, -, -, hrv⟩ := hyy.two
  subst he
  have hrv := hrv.out.rw
  unfold RW at hrv
  have HK3 := hidd (HK.out.later hb3)
  clear hyy hb3 HG HK
  unfold numV
  clear x0 x1 x2 x3 z0 z1 z2 z3 z4 z5
  rcases hrv with ⟨hg, hc0⟩ | ⟨hg, rfl⟩
  · have g1 : ((cg : Int) == 0) = false := by rw [beq_eq_false_iff_ne]; omega
    have g2 : decide (0 < (cg : Int)) = true := decide_eq_true (by omega)
    have g3 : decide (0 < cg) = true := decide_eq_true (by omega)
    have g4 : 0 < cg := by omega
    have hK := HK3.out.alloc (.cells #[.string ky, .string dy, .bool ey, .slice ya ksy.length yc] 24)
    have x0 := hK.bt.cell (i := 0) rfl
    have x1 := hK.bt.cell (i := 1) rfl
    have x2 := hK.bt.cell (i := 2) rfl
    have x3 := hK.bt.cell (i := 3) rfl
    have z0 := hK.bc.cell (i := 0) rfl
    have z1 := hK.bc.cell (i := 1) rfl
    have z2 := hK.bc.cell (i := 2) rfl
    have z3 := hK.bc.cell (i := 3) rfl
    have z4 := hK.bc.cell (i := 4) rfl
    have z5 := hK.bc.cell (i := 5) rfl
    simp only [Tr.kind, Tr.data, Tr.exec, Tr.v] at x0 x1 x2 x3 z0 z1 z2 z3 z4 z5
    have HK := hidd hK
    clear hK HK3
    by_cases ka : kc = kAdd
    · have e1 : (kc.toList == [97, 100, 100]) = true := by rw [ka, kAdd_list]; rfl
      have HR := hidd (change_add (c := ⟨kc, pc, (Tr.mk kn dn en (.slice na ksn.length nc) ksn : Lt).bare⟩) ka hg)
      clear ka hg hc0 HS HD
      go_wp2_with fail
      refine (HP.out _ HK.out).mono ?_
      intro e w5 hyy
      obtain ⟨kp, dp, ep, pa, pc', ksp, cp, he, hb5, hc10p, hop, hip, hrp⟩ := hyy.two
      subst he
      unfold numV
      have hK := HK.out.later hb5
      obtain ⟨er, her⟩ : ∃ er : Int, (cp : Int) = er := ⟨_, rfl⟩
      have HER := hidd her
      rw [her]
      clear x0 x1 x2 x3 z0 z1 z2 z3 z4 z5
      have f0 := hK.bz.frozen 0
      have f1 := hK.bz.frozen 1
      have f2 := hK.bz.frozen 2
      have f3 := hK.bz.frozen 3
      have y0 := hK.bz.cell (i := 0) rfl
      have y1 := hK.bz.cell (i := 1) rfl
      have y2 := hK.bz.cell (i := 2) rfl
      have y3 := hK.bz.cell (i := 3) rfl
      obtain ⟨hBF, hBk, hFR⟩ := hK.done (.string kp) (.string dp) (.bool ep) (.slice pa ksp.length pc')
      have r0 := hBk.cell (i := 0) rfl
      have r1 := hBk.cell (i := 1) rfl
      have r2 := hBk.cell (i := 2) rfl
      have r3 := hBk.cell (i := 3) rfl
      have hlt4 := HK.out.bz.lt
      have hnb := hip.out (fun b => b < w.heap.size) HTI.out HNI.out
      have HOP := hidd (ok_fr hFR _ hop.out (in_mono (fun b hb e => by omega) _ hnb))
      have HIP : Hid (cp = 0 → ∀ F : Nat → Prop, (Tr.mk kt dt et (.slice ta kst.length tc) kst : Lt).In F → (Tr.mk kn dn en (.slice na ksn.length nc) ksn : Lt).In F → (Tr.mk kp dp ep (.slice pa ksp.length pc') ksp : Lt).In (fun b => F b ∨ w.heap.size ≤ b)) := hidd (fun _ F h1 h2 => in_mono (fun b hb => by
        rcases hb with hb | hb
        · exact .inl hb
        · exact .inr (by omega)) _ (hip.out F h1 h2))
      have HRP := hidd hrp.out.rw
      rw [← HR.out] at HRP
      have HBF := hidd hBF
      clear hyy hb5 hop hip hrp her hBk hFR hK hlt4 hBF HK hnb
      go_wp2_with fail
      refine bodyPost_ret (v := .tuple #[.agg #[.string kp, .string dp, .bool ep, .slice pa ksp.length pc'], .int .i64 er]) ?_ rfl ?_
      · rw [results_cell_tmp rfl]
        go_simp
      · exact ⟨kp, dp, ep, pa, pc', ksp, cp, by rw [← HER.out]; rfl, HBF.out, hc10p, HOP.out, HIP.out, HRP.out⟩
    · have e1 : (kc.toList == [97, 100, 100]) = false := by rw [← kAdd_list]; exact beq_str ka
      by_cases ke : kc = kEdit
      · have e2 : (kc.toList == [101, 100, 105, 116]) = true := by rw [ke, kEdit_list]; rfl
        have HR := hidd (change_none (c := ⟨kc, pc, (Tr.mk kn dn en (.slice na ksn.length nc) ksn : Lt).bare⟩) ke hg)
        have HC0 := hidd hc0
        clear ka ke hg hc0 HS HD HP
        have hK := HK.out
        have f0 := hK.bz.frozen 0
        have f1 := hK.bz.frozen 1
        have f2 := hK.bz.frozen 2
        have f3 := hK.bz.frozen 3
        have y0 := hK.bz.cell (i := 0) rfl
        have y1 := hK.bz.cell (i := 1) rfl
        have y2 := hK.bz.cell (i := 2) rfl
        have y3 := hK.bz.cell (i := 3) rfl
        obtain ⟨hBF, hBk, hFR⟩ := hK.done (.string kt) (.string dt) (.bool et) (.slice ta kst.length tc)
        have r0 := hBk.cell (i := 0) rfl
        have r1 := hBk.cell (i := 1) rfl
        have r2 := hBk.cell (i := 2) rfl
        have r3 := hBk.cell (i := 3) rfl
        have HOP := hidd (ok_fr hFR _ hK.ot (in_mono (fun b hb e => by omega) _ HTI.out))
        have HBF := hidd hBF
        clear hBk hFR hK hBF HK
        go_wp2_with fail
        refine bodyPost_ret (v := .tuple #[.agg #[.string kt, .string dt, .bool et, .slice ta kst.length tc], .int .i64 (cg : Int)]) ?_ rfl ?_
        · rw [results_cell_tmp rfl]
          go_simp
        · exact ⟨kt, dt, et, ta, tc, kst, cg, rfl, HBF.out, hc10, HOP.out, hidd (fun e => absurd e HC0.out), .inl ⟨HR.out, HC0.out⟩⟩
      · have e2 : (kc.toList == [101, 100, 105, 116]) = false := by rw [← kEdit_list]; exact beq_str ke
        clear hg hc0
        by_cases kd : kc = kDrop
        · have e3 : (kc.toList == [100, 114, 111, 112]) = true := by rw [kd, kDrop_list]; rfl
          by_cases hz : (Tr.mk kn dn en (.slice na ksn.length nc) ksn : Lt).bare = NdZ
          · have HR := hidd (change_drop (t := (Tr.mk kt dt et (.slice ta kst.length tc) kst : Lt).bare) (c := ⟨kc, pc, (Tr.mk kn dn en (.slice na ksn.length nc) ksn : Lt).bare⟩) kd hz)
            have HSM := hidd (fun W h => HS.out W true h ⟨fun _ => hz.trans zLt_bare.symm, fun _ => rfl⟩)
            clear ka ke kd hz HP HS
            go_wp2_with fail
            refine (HSM.out _ HK.out).mono ?_
            rintro e w3 ⟨rfl, hb3⟩
            have hK := HK.out.later hb3
            clear x0 x1 x2 x3 z0 z1 z2 z3 z4 z5
            have x0 := hK.bt.cell (i := 0) rfl
            have x1 := hK.bt.cell (i := 1) rfl
            have x2 := hK.bt.cell (i := 2) rfl
            have x3 := hK.bt.cell (i := 3) rfl
            have z0 := hK.bc.cell (i := 0) rfl
            have z1 := hK.bc.cell (i := 1) rfl
            have z2 := hK.bc.cell (i := 2) rfl
            have z3 := hK.bc.cell (i := 3) rfl
            have z4 := hK.bc.cell (i := 4) rfl
            have z5 := hK.bc.cell (i := 5) rfl
            simp only [Tr.kind, Tr.data, Tr.exec, Tr.v] at x0 x1 x2 x3 z0 z1 z2 z3 z4 z5
            clear hb3 HSM HK
            have HK := hidd hK
            clear hK
            go_wp2_with fail
            refine (HD.out _ HK.out).mono ?_
            intro e w5 hyy
            obtain ⟨kp, dp, ep, pa, pc', ksp, cp, he, hb5, hc10p, hop, hip, hrp⟩ := hyy.two
            subst he
            unfold numV
            have hK := HK.out.later hb5
            obtain ⟨er, her⟩ : ∃ er : Int, (cp : Int) = er := ⟨_, rfl⟩
            have HER := hidd her
            rw [her]
            clear x0 x1 x2 x3 z0 z1 z2 z3 z4 z5
            have f0 := hK.bz.frozen 0
            have f1 := hK.bz.frozen 1
            have f2 := hK.bz.frozen 2
            have f3 := hK.bz.frozen 3
            have y0 := hK.bz.cell (i := 0) rfl
            have y1 := hK.bz.cell (i := 1) rfl
            have y2 := hK.bz.cell (i := 2) rfl
            have y3 := hK.bz.cell (i := 3) rfl
            obtain ⟨hBF, hBk, hFR⟩ := hK.done (.string kp) (.string dp) (.bool ep) (.slice pa ksp.length pc')
            have r0 := hBk.cell (i := 0) rfl
            have r1 := hBk.cell (i := 1) rfl
            have r2 := hBk.cell (i := 2) rfl
            have r3 := hBk.cell (i := 3) rfl
            have hlt4 := HK.out.bz.lt
            have hnb := hip.out (fun b => b < w.heap.size) HTI.out (ltZ_in _)
            have HOP := hidd (ok_fr hFR _ hop.out (in_mono (fun b hb e => by omega) _ hnb))
            have HIP : Hid (cp = 0 → ∀ F : Nat → Prop, (Tr.mk kt dt et (.slice ta kst.length tc) kst : Lt).In F → (Tr.mk kn dn en (.slice na ksn.length nc) ksn : Lt).In F → (Tr.mk kp dp ep (.slice pa ksp.length pc') ksp : Lt).In (fun b => F b ∨ w.heap.size ≤ b)) := hidd (fun _ F h1 h2 => in_mono (fun b hb => by
              rcases hb with hb | hb
              · exact .inl hb
              · exact .inr (by omega)) _ (hip.out F h1 (ltZ_in _)))
            have HRP := hidd hrp.out.rw
            rw [← HR.out] at HRP
            have HBF := hidd hBF
            clear hyy hb5 hop hip hrp her hBk hFR hK hlt4 hBF HK hnb
            go_wp2_with fail
            refine bodyPost_ret (v := .tuple #[.agg #[.string kp, .string dp, .bool ep, .slice pa ksp.length pc'], .int .i64 er]) ?_ rfl ?_
            · rw [results_cell_tmp rfl]
              go_simp
            · exact ⟨kp, dp, ep, pa, pc', ksp, cp, by rw [← HER.out]; rfl, HBF.out, hc10p, HOP.out, HIP.out, HRP.out⟩
          · have HR := hidd (change_shape (t := (Tr.mk kt dt et (.slice ta kst.length tc) kst : Lt).bare) (c := ⟨kc, pc, (Tr.mk kn dn en (.slice na ksn.length nc) ksn : Lt).bare⟩) kd hz)
            have HSM := hidd (fun W h => HS.out W false h ⟨fun h => (by cases h), fun h => absurd (h.trans zLt_bare) hz⟩)
            clear ka ke kd hz HP HS HD
            go_wp2_with fail
            refine (HSM.out _ HK.out).mono ?_
            rintro e w3 ⟨rfl, hb3⟩
            have hK := HK.out.later hb3
            clear x0 x1 x2 x3 z0 z1 z2 z3 z4 z5
            have x0 := hK.bt.cell (i := 0) rfl
            have x1 := hK.bt.cell (i := 1) rfl
            have x2 := hK.bt.cell (i := 2) rfl
            have x3 := hK.bt.cell (i := 3) rfl
            have z0 := hK.bc.cell (i := 0) rfl
            have z1 := hK.bc.cell (i := 1) rfl
            have z2 := hK.bc.cell (i := 2) rfl
            have z3 := hK.bc.cell (i := 3) rfl
            have z4 := hK.bc.cell (i := 4) rfl
            have z5 := hK.bc.cell (i := 5) rfl
            simp only [Tr.kind, Tr.data, Tr.exec, Tr.v] at x0 x1 x2 x3 z0 z1 z2 z3 z4 z5
            clear hb3 HSM HK
            have HK := hidd hK
            clear hK
            have hK := HK.out
            have f0 := hK.bz.frozen 0
            have f1 := hK.bz.frozen 1
            have f2 := hK.bz.frozen 2
            have f3 := hK.bz.frozen 3
            have y0 := hK.bz.cell (i := 0) rfl
            have y1 := hK.bz.cell (i := 1) rfl
            have y2 := hK.bz.cell (i := 2) rfl
            have y3 := hK.bz.cell (i := 3) rfl
            obtain ⟨hBF, hBk, hFR⟩ := hK.done (.string kt) (.string dt) (.bool et) (.slice ta kst.length tc)
            have r0 := hBk.cell (i := 0) rfl
            have r1 := hBk.cell (i := 1) rfl
            have r2 := hBk.cell (i := 2) rfl
            have r3 := hBk.cell (i := 3) rfl
            have HOP := hidd (ok_fr hFR _ hK.ot (in_mono (fun b hb e => by omega) _ HTI.out))
            have HBF := hidd hBF
            clear hBk hFR hK hBF HK
            go_wp2_with fail
            refine bodyPost_ret (v := .tuple #[.agg #[.string kt, .string dt, .bool et, .slice ta kst.length tc], .int .i64 3]) ?_ rfl ?_
            · rw [results_cell_tmp rfl]
              go_simp
            · exact ⟨kt, dt, et, ta, tc, kst, 3, rfl, HBF.out, (by decide), HOP.out, hidd (fun e => absurd e (by decide)), .inl ⟨HR.out, (by decide)⟩⟩
        · have e3 : (kc.toList == [100, 114, 111, 112]) = false := by rw [← kDrop_list]; exact beq_str kd
          have HR := hidd (change_kind (t := (Tr.mk kt dt et (.slice ta kst.length tc) kst : Lt).bare) (c := ⟨kc, pc, (Tr.mk kn dn en (.slice na ksn.length nc) ksn : Lt).bare⟩) ka ke kd)
          clear ka ke kd HP HS HD
          have hK := HK.out
          have f0 := hK.bz.frozen 0
          have f1 := hK.bz.frozen 1
          have f2 := hK.bz.frozen 2
          have f3 := hK.bz.frozen 3
          have y0 := hK.bz.cell (i := 0) rfl
          have y1 := hK.bz.cell (i := 1) rfl
          have y2 := hK.bz.cell (i := 2) rfl
          have y3 := hK.bz.cell (i := 3) rfl
          obtain ⟨hBF, hBk, hFR⟩ := hK.done (.string kt) (.string dt) (.bool et) (.slice ta kst.length tc)
          have r0 := hBk.cell (i := 0) rfl
          have r1 := hBk.cell (i := 1) rfl
          have r2 := hBk.cell (i := 2) rfl
          have r3 := hBk.cell (i := 3) rfl
          have HOP := hidd (ok_fr hFR _ hK.ot (in_mono (fun b hb e => by omega) _ HTI.out))
          have HBF := hidd hBF
          clear hBk hFR hK hBF HK
          go_wp2_with fail
          refine bodyPost_ret (v := .tuple #[.agg #[.string kt, .string dt, .bool et, .slice ta kst.length tc], .int .i64 4]) ?_ rfl ?_
          · rw [results_cell_tmp rfl]
            go_simp
          · exact ⟨kt, dt, et, ta, tc, kst, 4, rfl, HBF.out, (by decide), HOP.out, hidd (fun e => absurd e (by decide)), .inl ⟨HR.out, (by decide)⟩⟩
  · have g1 : (((0 : Nat) : Int) == 0) = true := rfl
    have g2 : decide (0 < ((0 : Nat) : Int)) = false := rfl
    simp only [Int.cast_ofNat_Int]
    have hK := HK3.out.alloc (.cells #[.string ky, .string dy, .bool ey, .slice ya ksy.length yc] 24)
    have x0 := hK.bt.cell (i := 0) rfl
    have x1 := hK.bt.cell (i := 1) rfl
    have x2 := hK.bt.cell (i := 2) rfl
    have x3 := hK.bt.cell (i := 3) rfl
    have z0 := hK.bc.cell (i := 0) rfl
    have z1 := hK.bc.cell (i := 1) rfl
    have z2 := hK.bc.cell (i := 2) rfl
    have z3 := hK.bc.cell (i := 3) rfl
    have z4 := hK.bc.cell (i := 4) rfl
    have z5 := hK.bc.cell (i := 5) rfl
    simp only [Tr.kind, Tr.data, Tr.exec, Tr.v] at x0 x1 x2 x3 z0 z1 z2 z3 z4 z5
    have HK := hidd hK
    clear hK HK3
    by_cases ka : kc = kAdd
    · have e1 : (kc.toList == [97, 100, 100]) = true := by rw [ka, kAdd_list]; rfl
      have HR := hidd (change_exist (c := ⟨kc, pc, (Tr.mk kn dn en (.slice na ksn.length nc) ksn : Lt).bare⟩) ka hg)
      clear ka hg HS HD HP
      have hK := HK.out
      have f0 := hK.bz.frozen 0
      have f1 := hK.bz.frozen 1
      have f2 := hK.bz.frozen 2
      have f3 := hK.bz.frozen 3
      have y0 := hK.bz.cell (i := 0) rfl
      have y1 := hK.bz.cell (i := 1) rfl
      have y2 := hK.bz.cell (i := 2) rfl
      have y3 := hK.bz.cell (i := 3) rfl
      obtain ⟨hBF, hBk, hFR⟩ := hK.done (.string kt) (.string dt) (.bool et) (.slice ta kst.length tc)
      have r0 := hBk.cell (i := 0) rfl
      have r1 := hBk.cell (i := 1) rfl
      have r2 := hBk.cell (i := 2) rfl
      have r3 := hBk.cell (i := 3) rfl
      have HOP := hidd (ok_fr hFR _ hK.ot (in_mono (fun b hb e => by omega) _ HTI.out))
      have HBF := hidd hBF
      clear hBk hFR hK hBF HK
      go_wp2_with fail
      refine bodyPost_ret (v := .tuple #[.agg #[.string kt, .string dt, .bool et, .slice ta kst.length tc], .int .i64 7]) ?_ rfl ?_
      · rw [results_cell_tmp rfl]
        go_simp
      · exact ⟨kt, dt, et, ta, tc, kst, 7, rfl, HBF.out, (by decide), HOP.out, hidd (fun e => absurd e (by decide)), .inl ⟨HR.out, (by decide)⟩⟩
    · have e1 : (kc.toList == [97, 100, 100]) = false := by rw [← kAdd_list]; exact beq_str ka
      by_cases ke : kc = kEdit
      · have e2 : (kc.toList == [101, 100, 105, 116]) = true := by rw [ke, kEdit_list]; rfl
        have HR := hidd (change_edit (c := ⟨kc, pc, (Tr.mk kn dn en (.slice na ksn.length nc) ksn : Lt).bare⟩) ke hg)
        clear ka ke hg HS HD
        go_wp2_with fail
        refine (HP.out _ HK.out).mono ?_
        intro e w5 hyy
        obtain ⟨kp, dp, ep, pa, pc', ksp, cp, he, hb5, hc10p, hop, hip, hrp⟩ := hyy.two
        subst he
        unfold numV
        have hK := HK.out.later hb5
        obtain ⟨er, her⟩ : ∃ er : Int, (cp : Int) = er := ⟨_, rfl⟩
        have HER := hidd her
        rw [her]
        clear x0 x1 x2 x3 z0 z1 z2 z3 z4 z5
        have f0 := hK.bz.frozen 0
        have f1 := hK.bz.frozen 1
        have f2 := hK.bz.frozen 2
        have f3 := hK.bz.frozen 3
        have y0 := hK.bz.cell (i := 0) rfl
        have y1 := hK.bz.cell (i := 1) rfl
        have y2 := hK.bz.cell (i := 2) rfl
        have y3 := hK.bz.cell (i := 3) rfl
        obtain ⟨hBF, hBk, hFR⟩ := hK.done (.string kp) (.string dp) (.bool ep) (.slice pa ksp.length pc')
        have r0 := hBk.cell (i := 0) rfl
        have r1 := hBk.cell (i := 1) rfl
        have r2 := hBk.cell (i := 2) rfl
        have r3 := hBk.cell (i := 3) rfl
        have hlt4 := HK.out.bz.lt
        have hnb := hip.out (fun b => b < w.heap.size) HTI.out HNI.out
        have HOP := hidd (ok_fr hFR _ hop.out (in_mono (fun b hb e => by omega) _ hnb))
        have HIP : Hid (cp = 0 → ∀ F : Nat → Prop, (Tr.mk kt dt et (.slice ta kst.length tc) kst : Lt).In F → (Tr.mk kn dn en (.slice na ksn.length nc) ksn : Lt).In F → (Tr.mk kp dp ep (.slice pa ksp.length pc') ksp : Lt).In (fun b => F b ∨ w.heap.size ≤ b)) := hidd (fun _ F h1 h2 => in_mono (fun b hb => by
          rcases hb with hb | hb
          · exact .inl hb
          · exact .inr (by omega)) _ (hip.out F h1 h2))
        have HRP := hidd hrp.out.rw
        rw [← HR.out] at HRP
        have HBF := hidd hBF
        clear hyy hb5 hop hip hrp her hBk hFR hK hlt4 hBF HK hnb
        go_wp2_with fail
        refine bodyPost_ret (v := .tuple #[.agg #[.string kp, .string dp, .bool ep, .slice pa ksp.length pc'], .int .i64 er]) ?_ rfl ?_
        · rw [results_cell_tmp rfl]
          go_simp
        · exact ⟨kp, dp, ep, pa, pc', ksp, cp, by rw [← HER.out]; rfl, HBF.out, hc10p, HOP.out, HIP.out, HRP.out⟩
      · have e2 : (kc.toList == [101, 100, 105, 116]) = false := by rw [← kEdit_list]; exact beq_str ke
        clear hg
        by_cases kd : kc = kDrop
        · have e3 : (kc.toList == [100, 114, 111, 112]) = true := by rw [kd, kDrop_list]; rfl
          by_cases hz : (Tr.mk kn dn en (.slice na ksn.length nc) ksn : Lt).bare = NdZ
          · have HR := hidd (change_drop (t := (Tr.mk kt dt et (.slice ta kst.length tc) kst : Lt).bare) (c := ⟨kc, pc, (Tr.mk kn dn en (.slice na ksn.length nc) ksn : Lt).bare⟩) kd hz)
            have HSM := hidd (fun W h => HS.out W true h ⟨fun _ => hz.trans zLt_bare.symm, fun _ => rfl⟩)
            clear ka ke kd hz HP HS
            go_wp2_with fail
            refine (HSM.out _ HK.out).mono ?_
            rintro e w3 ⟨rfl, hb3⟩
            have hK := HK.out.later hb3
            clear x0 x1 x2 x3 z0 z1 z2 z3 z4 z5
            have x0 := hK.bt.cell (i := 0) rfl
            have x1 := hK.bt.cell (i := 1) rfl
            have x2 := hK.bt.cell (i := 2) rfl
            have x3 := hK.bt.cell (i := 3) rfl
            have z0 := hK.bc.cell (i := 0) rfl
            have z1 := hK.bc.cell (i := 1) rfl
            have z2 := hK.bc.cell (i := 2) rfl
            have z3 := hK.bc.cell (i := 3) rfl
            have z4 := hK.bc.cell (i := 4) rfl
            have z5 := hK.bc.cell (i := 5) rfl
            simp only [Tr.kind, Tr.data, Tr.exec, Tr.v] at x0 x1 x2 x3 z0 z1 z2 z3 z4 z5
            clear hb3 HSM HK
            have HK := hidd hK
            clear hK
            go_wp2_with fail
            refine (HD.out _ HK.out).mono ?_
            intro e w5 hyy
            obtain ⟨kp, dp, ep, pa, pc', ksp, cp, he, hb5, hc10p, hop, hip, hrp⟩ := hyy.two
            subst he
            unfold numV
            have hK := HK.out.later hb5
            obtain ⟨er, her⟩ : ∃ er : Int, (cp : Int) = er := ⟨_, rfl⟩
            have HER := hidd her
            rw [her]
            clear x0 x1 x2 x3 z0 z1 z2 z3 z4 z5
            have f0 := hK.bz.frozen 0
            have f1 := hK.bz.frozen 1
            have f2 := hK.bz.frozen 2
            have f3 := hK.bz.frozen 3
            have y0 := hK.bz.cell (i := 0) rfl
            have y1 := hK.bz.cell (i := 1) rfl
            have y2 := hK.bz.cell (i := 2) rfl
            have y3 := hK.bz.cell (i := 3) rfl
            obtain ⟨hBF, hBk, hFR⟩ := hK.done (.string kp) (.string dp) (.bool ep) (.slice pa ksp.length pc')
            have r0 := hBk.cell (i := 0) rfl
            have r1 := hBk.cell (i := 1) rfl
            have r2 := hBk.cell (i := 2) rfl
            have r3 := hBk.cell (i := 3) rfl
            have hlt4 := HK.out.bz.lt
            have hnb := hip.out (fun b => b < w.heap.size) HTI.out (ltZ_in _)
            have HOP := hidd (ok_fr hFR _ hop.out (in_mono (fun b hb e => by omega) _ hnb))
            have HIP : Hid (cp = 0 → ∀ F : Nat → Prop, (Tr.mk kt dt et (.slice ta kst.length tc) kst : Lt).In F → (Tr.mk kn dn en (.slice na ksn.length nc) ksn : Lt).In F → (Tr.mk kp dp ep (.slice pa ksp.length pc') ksp : Lt).In (fun b => F b ∨ w.heap.size ≤ b)) := hidd (fun _ F h1 h2 => in_mono (fun b hb => by
              rcases hb with hb | hb
              · exact .inl hb
              · exact .inr (by omega)) _ (hip.out F h1 (ltZ_in _)))
            have HRP := hidd hrp.out.rw
            rw [← HR.out] at HRP
            have HBF := hidd hBF
            clear hyy hb5 hop hip hrp her hBk hFR hK hlt4 hBF HK hnb
            go_wp2_with fail
            refine bodyPost_ret (v := .tuple #[.agg #[.string kp, .string dp, .bool ep, .slice pa ksp.length pc'], .int .i64 er]) ?_ rfl ?_
            · rw [results_cell_tmp rfl]
              go_simp
            · exact ⟨kp, dp, ep, pa, pc', ksp, cp, by rw [← HER.out]; rfl, HBF.out, hc10p, HOP.out, HIP.out, HRP.out⟩
          · have HR := hidd (change_shape (t := (Tr.mk kt dt et (.slice ta kst.length tc) kst : Lt).bare) (c := ⟨kc, pc, (Tr.mk kn dn en (.slice na ksn.length nc) ksn : Lt).bare⟩) kd hz)
            have HSM := hidd (fun W h => HS.out W false h ⟨fun h => (by cases h), fun h => absurd (h.trans zLt_bare) hz⟩)
            clear ka ke kd hz HP HS HD
            go_wp2_with fail
            refine (HSM.out _ HK.out).mono ?_
            rintro e w3 ⟨rfl, hb3⟩
            have hK := HK.out.later hb3
            clear x0 x1 x2 x3 z0 z1 z2 z3 z4 z5
            have x0 := hK.bt.cell (i := 0) rfl
            have x1 := hK.bt.cell (i := 1) rfl
            have x2 := hK.bt.cell (i := 2) rfl
            have x3 := hK.bt.cell (i := 3) rfl
            have z0 := hK.bc.cell (i := 0) rfl
            have z1 := hK.bc.cell (i := 1) rfl
            have z2 := hK.bc.cell (i := 2) rfl
            have z3 := hK.bc.cell (i := 3) rfl
            have z4 := hK.bc.cell (i := 4) rfl
            have z5 := hK.bc.cell (i := 5) rfl
            simp only [Tr.kind, Tr.data, Tr.exec, Tr.v] at x0 x1 x2 x3 z0 z1 z2 z3 z4 z5
            clear hb3 HSM HK
            have HK := hidd hK
            clear hK
            have hK := HK.out
            have f0 := hK.bz.frozen 0
            have f1 := hK.bz.frozen 1
            have f2 := hK.bz.frozen 2
            have f3 := hK.bz.frozen 3
            have y0 := hK.bz.cell (i := 0) rfl
            have y1 := hK.bz.cell (i := 1) rfl
            have y2 := hK.bz.cell (i := 2) rfl
            have y3 := hK.bz.cell (i := 3) rfl
            obtain ⟨hBF, hBk, hFR⟩ := hK.done (.string kt) (.string dt) (.bool et) (.slice ta kst.length tc)
            have r0 := hBk.cell (i := 0) rfl
            have r1 := hBk.cell (i := 1) rfl
            have r2 := hBk.cell (i := 2) rfl
            have r3 := hBk.cell (i := 3) rfl
            have HOP := hidd (ok_fr hFR _ hK.ot (in_mono (fun b hb e => by omega) _ HTI.out))
            have HBF := hidd hBF
            clear hBk hFR hK hBF HK
            go_wp2_with fail
            refine bodyPost_ret (v := .tuple #[.agg #[.string kt, .string dt, .bool et, .slice ta kst.length tc], .int .i64 3]) ?_ rfl ?_
            · rw [results_cell_tmp rfl]
              go_simp
            · exact ⟨kt, dt, et, ta, tc, kst, 3, rfl, HBF.out, (by decide), HOP.out, hidd (fun e => absurd e (by decide)), .inl ⟨HR.out, (by decide)⟩⟩
        · have e3 : (kc.toList == [100, 114, 111, 112]) = false := by rw [← kDrop_list]; exact beq_str kd
          have HR := hidd (change_kind (t := (Tr.mk kt dt et (.slice ta kst.length tc) kst : Lt).bare) (c := ⟨kc, pc, (Tr.mk kn dn en (.slice na ksn.length nc) ksn : Lt).bare⟩) ka ke kd)
          clear ka ke kd HP HS HD
          have hK := HK.out
          have f0 := hK.bz.frozen 0
          have f1 := hK.bz.frozen 1
          have f2 := hK.bz.frozen 2
          have f3 := hK.bz.frozen 3
          have y0 := hK.bz.cell (i := 0) rfl
          have y1 := hK.bz.cell (i := 1) rfl
          have y2 := hK.bz.cell (i := 2) rfl
          have y3 := hK.bz.cell (i := 3) rfl
          obtain ⟨hBF, hBk, hFR⟩ := hK.done (.string kt) (.string dt) (.bool et) (.slice ta kst.length tc)
          have r0 := hBk.cell (i := 0) rfl
          have r1 := hBk.cell (i := 1) rfl
          have r2 := hBk.cell (i := 2) rfl
          have r3 := hBk.cell (i := 3) rfl
          have HOP := hidd (ok_fr hFR _ hK.ot (in_mono (fun b hb e => by omega) _ HTI.out))
          have HBF := hidd hBF
          clear hBk hFR hK hBF HK
          go_wp2_with fail
          refine bodyPost_ret (v := .tuple #[.agg #[.string kt, .string dt, .bool et, .slice ta kst.length tc], .int .i64 4]) ?_ rfl ?_
          · rw [results_cell_tmp rfl]
            go_simp
          · exact ⟨kt, dt, et, ta, tc, kst, 4, rfl, HBF.out, (by decide), HOP.out, hidd (fun e => absurd e (by decide)), .inl ⟨HR.out, (by decide)⟩⟩
end Go.Proofs.YtoaedkinlnkkhaaGreatDoor

namespace Go.Proofs.YtoaedkinlnkkhaaGreatDoor
open Go.RowKit Go.Shelf
theorem below_4 {B : Nat} {w W : World} (h : Below B w W) {p : Nat} (hp : B ≤ p) (x0 x1 x2 x3 : Value) : Below B w ((((W.setCell ⟨p, 0, none⟩ x0).setCell ⟨p, 1, none⟩ x1).setCell ⟨p, 2, none⟩ x2).setCell ⟨p, 3, none⟩ x3) :=
  (((h.setCell (p := ⟨p, 0, none⟩) hp x0).setCell (p := ⟨p, 1, none⟩) hp x1).setCell (p := ⟨p, 2, none⟩) hp x2).setCell (p := ⟨p, 3, none⟩) hp x3
theorem results_cells {fn : Func} {p u : Tmp} {ty tu : TypeId} (h : fn.results = #[.cell p ty, .cell u tu]) (tmps : Array Value) (P : Program) (w : World) :
    (results fn tmps).run P w = ((asAddr (tmps.getD p undef)).run P w).andThen fun a w1 => ((loadVar ty a).run P w1).andThen fun v w2 => ((asAddr (tmps.getD u undef)).run P w2).andThen fun b w3 => ((loadVar tu b).run P w3).andThen fun x w4 => .ok (.tuple #[v, x]) w4 := by
  simp only [results, h]
  simp [Sem.run_bind, Result.andThen]
theorem bare_fn (c : Int) (w : World) : Calls Tryz.prog 33 #[.int .i64 c] w fun e w' => e = .returned (.agg #[.int .i64 c, .int .i64 (-1)]) ∧ Below w.heap.size w w' := by
  go_enter Tryz.func33, Tryz.ntmps33
  go_wp2_with fail
  refine bodyPost_ret (v := .agg #[.int .i64 c, .int .i64 (-1)]) ?_ rfl ?_
  · rw [results_cell1 rfl]
    go_simp
  · exact ⟨rfl, (Below.refl _ _).alloc (Nat.le_refl _) _⟩
theorem fine_fn (w : World) : Calls Tryz.prog 35 #[] w fun e w' => e = .returned (.agg #[.int .i64 0, .int .i64 (-1)]) ∧ Below w.heap.size w w' := by
  go_enter Tryz.func35, Tryz.ntmps35
  go_wp2_with fail
  refine bodyPost_ret (v := .agg #[.int .i64 0, .int .i64 (-1)]) ?_ rfl ?_
  · rw [results_cell1 rfl]
    go_simp
  · exact ⟨rfl, (Below.refl _ _).alloc (Nat.le_refl _) _⟩

/-- What the reference's ApplyOf gives. -/
def RapP (t : Nd) (l : List (Ch Unit)) (w : World) (e : Ending) (w' : World) : Prop :=
  Below w.heap.size w w' ∧ ((∃ c, c = treeE t ∧ c ≠ 0 ∧ c ≤ 10 ∧ e = .returned (.tuple #[nodeZ, .agg #[.int .i64 (c : Int), .int .i64 (-1)]])) ∨
    (treeE t = 0 ∧ ∃ c i : Nat, applyL 0 t l = .error (c, i) ∧ c ≠ 0 ∧ c ≤ 10 ∧ e = .returned (.tuple #[nodeZ, .agg #[.int .i64 (c : Int), .int .i64 (i : Int)]])) ∨
    (treeE t = 0 ∧ ∃ y : Lt, applyL 0 t l = .ok y.bare ∧ e = .returned (.tuple #[nval y, .agg #[.int .i64 0, .int .i64 (-1)]]) ∧ y.Ok w'))
/-- What stands at a round's head. -/
structure RaK (w : World) (R : Except (Nat × Nat) Nd) (ls : List (Ch Value)) (i : Nat) (y : Lt) (W : World) : Prop where
  bn : Blk W w.heap.size (ncells y) 24
  bz : Blk W (w.heap.size + 1) [.string ⟨#[]⟩, .string ⟨#[]⟩, .bool false, .slice none 0 0] 24
  bf : Blk W (w.heap.size + 2) [.int .i64 0, .int .i64 0] 42
  oy : y.Ok W
  iy : y.In (fun b => b < w.heap.size ∨ w.heap.size + 2 < b)
  r : applyL i y.bare ((ls.drop i).map Ch.bare) = R
  below : Below w.heap.size w W
section
variable {w : World} {R : Except (Nat × Nat) Nd} {ls : List (Ch Value)} {i : Nat} {y : Lt} {W W' : World}
theorem RaK.later (h : RaK w R ls i y W) (hb : Below W.heap.size W W') : RaK w R ls i y W' := ⟨h.bn.below hb h.bn.lt, h.bz.below hb h.bz.lt, h.bf.below hb h.bf.lt, h.oy.ob hb, h.iy, h.r, h.below.trans (hb.mono h.below.size)⟩
theorem RaK.next (h : RaK w R ls i y W) (hi : i < ls.length) {z : Lt} (hz : z.Ok W) (hzi : z.In (fun b => b < w.heap.size ∨ w.heap.size + 2 < b)) (hc : changeOf y.bare ls[i].bare = .ok z.bare) :
    RaK w R ls (i + 1) z ((((W.setCell ⟨w.heap.size, 0, none⟩ (.string z.kind)).setCell ⟨w.heap.size, 1, none⟩ (.string z.data)).setCell ⟨w.heap.size, 2, none⟩ (.bool z.exec)).setCell ⟨w.heap.size, 3, none⟩ z.v) := by
  have hF := (Fr.refl (fun b => b = w.heap.size) W).four (p := w.heap.size) (.inl rfl) (.string z.kind) (.string z.data) (.bool z.exec) z.v
  refine ⟨h.bn.four, h.bz.fr hF (by omega), h.bf.fr hF (by omega), ok_fr hF z hz (in_mono (fun b hb e => by omega) z hzi), hzi, ?_, h.below.trans (hF.below h.below.size (fun b e => by omega))⟩
  have := h.r
  rw [show ls.drop i = ls[i] :: ls.drop (i + 1) from (List.getElem_cons_drop hi).symm, List.map_cons, applyL_ok hc] at this
  exact this
/-- The results' blocks, written over. -/
theorem RaK.done (h : RaK w R ls i y W) (c0 c1 c2 c3 n0 n1 : Value) : Below w.heap.size w ((((((W.setCell ⟨w.heap.size + 1, 0, none⟩ c0).setCell ⟨w.heap.size + 1, 1, none⟩ c1).setCell ⟨w.heap.size + 1, 2, none⟩ c2).setCell ⟨w.heap.size + 1, 3, none⟩ c3).setCell ⟨w.heap.size + 2, 0, none⟩ n0).setCell ⟨w.heap.size + 2, 1, none⟩ n1) ∧
    Blk ((((((W.setCell ⟨w.heap.size + 1, 0, none⟩ c0).setCell ⟨w.heap.size + 1, 1, none⟩ c1).setCell ⟨w.heap.size + 1, 2, none⟩ c2).setCell ⟨w.heap.size + 1, 3, none⟩ c3).setCell ⟨w.heap.size + 2, 0, none⟩ n0).setCell ⟨w.heap.size + 2, 1, none⟩ n1) (w.heap.size + 1) [c0, c1, c2, c3] 24 ∧
    Blk ((((((W.setCell ⟨w.heap.size + 1, 0, none⟩ c0).setCell ⟨w.heap.size + 1, 1, none⟩ c1).setCell ⟨w.heap.size + 1, 2, none⟩ c2).setCell ⟨w.heap.size + 1, 3, none⟩ c3).setCell ⟨w.heap.size + 2, 0, none⟩ n0).setCell ⟨w.heap.size + 2, 1, none⟩ n1) (w.heap.size + 2) [n0, n1] 42 ∧
    Fr (fun b => b = w.heap.size + 1 ∨ b = w.heap.size + 2) W ((((((W.setCell ⟨w.heap.size + 1, 0, none⟩ c0).setCell ⟨w.heap.size + 1, 1, none⟩ c1).setCell ⟨w.heap.size + 1, 2, none⟩ c2).setCell ⟨w.heap.size + 1, 3, none⟩ c3).setCell ⟨w.heap.size + 2, 0, none⟩ n0).setCell ⟨w.heap.size + 2, 1, none⟩ n1) := by
  have hF := (((Fr.refl (fun b => b = w.heap.size + 1 ∨ b = w.heap.size + 2) W).four (p := w.heap.size + 1) (.inl (.inl rfl)) c0 c1 c2 c3).setCell (p := ⟨w.heap.size + 2, 0, none⟩) (.inl (.inr rfl)) n0).setCell (p := ⟨w.heap.size + 2, 1, none⟩) (.inl (.inr rfl)) n1
  refine ⟨h.below.trans (hF.below h.below.size (fun b e => by omega)), ?_, ?_, hF⟩
  · exact ((h.bz.four).other (by simp) _).other (by simp) _
  · exact (((((h.bf.other (by simp) _).other (by simp) _).other (by simp) _).other (by simp) _).set 0 n0).set 1 n1
end

set_option maxRecDepth 100000 in
set_option maxHeartbeats 40000000 in
theorem rapply_any (t : Lt) (v : Value) (ls : List (Ch Value)) (w : World) (ht : t.Ok w) (hl : ChI ls v w) (hs : ∀ c ∈ ls, c.path.size ≤ 1000000) :
    Calls Tryz.prog 15 #[nval t, v] w (RapP t.bare (ls.map Ch.bare) w) := by
  obtain ⟨ta, tc, htv⟩ := ht.shape
  obtain ⟨la, lc, rfl, -⟩ := id hl.sl
  have hll := hl.sl.le
  obtain ⟨kt, dt, et, vt, kst⟩ := t
  simp only [Tr.v, Tr.kids] at htv
  subst htv
  have hB3 := ch_below w #[.string kt, .string dt, .bool et, .slice ta kst.length tc] #[.string ⟨#[]⟩, .string ⟨#[]⟩, .bool false, .slice none 0 0] #[.int .i64 0, .int .i64 0] 24 24 42
  have hK : RaK w (applyL 0 (Tr.mk kt dt et (.slice ta kst.length tc) kst : Lt).bare (ls.map Ch.bare)) ls 0 (.mk kt dt et (.slice ta kst.length tc) kst) (((w.alloc (.cells #[.string kt, .string dt, .bool et, .slice ta kst.length tc] 24)).alloc (.cells #[.string ⟨#[]⟩, .string ⟨#[]⟩, .bool false, .slice none 0 0] 24)).alloc (.cells #[.int .i64 0, .int .i64 0] 42)) := by
    refine ⟨((Blk.new w _ _).alloc _).alloc _, ?_, ?_, ht.ob hB3, in_mono (fun b hb => .inl hb) _ (ok_in _ ht), by rw [List.drop_zero], hB3⟩
    · have h2 := (Blk.new (w.alloc (.cells #[.string kt, .string dt, .bool et, .slice ta kst.length tc] 24)) [.string ⟨#[]⟩, .string ⟨#[]⟩, .bool false, .slice none 0 0] 24).alloc (.cells #[.int .i64 0, .int .i64 0] 42)
      rw [show (w.alloc (.cells #[.string kt, .string dt, .bool et, .slice ta kst.length tc] 24)).heap.size = w.heap.size + 1 by simp] at h2
      exact h2
    · have h3 := Blk.new ((w.alloc (.cells #[.string kt, .string dt, .bool et, .slice ta kst.length tc] 24)).alloc (.cells #[.string ⟨#[]⟩, .string ⟨#[]⟩, .bool false, .slice none 0 0] 24)) [.int .i64 0, .int .i64 0] 42
      rw [show ((w.alloc (.cells #[.string kt, .string dt, .bool et, .slice ta kst.length tc] 24)).alloc (.cells #[.string ⟨#[]⟩, .string ⟨#[]⟩, .bool false, .slice none 0 0] 24)).heap.size = w.heap.size + 2 by simp] at h3
      exact h3
  have HTB : Hid (treeE (Tr.mk kt dt et (.slice ta kst.length tc) kst : Lt).bare = treeE (Tr.mk kt dt et (.slice ta kst.length tc) kst : Lt)) := hidd (treeE_map _ _)
  have hCK := treeErr_any _ _ hK.oy
  have HLS := hidd (fun W (h : Below w.heap.size w W) => hl.ob h)
  have HLI := hidd (fun c (h : c ∈ ls) => ok_in _ (hl.ok c h))
  have HPS := hidd hs
  obtain ⟨R, hR⟩ : ∃ R, applyL 0 (Tr.mk kt dt et (.slice ta kst.length tc) kst : Lt).bare (ls.map Ch.bare) = R := ⟨_, rfl⟩
  have HRR := hidd hR
  rw [hR] at hK
  unfold nval at hCK ⊢
  simp only [Tr.kind, Tr.data, Tr.exec, Tr.v] at hCK ⊢
  have x0 := hK.bn.cell (i := 0) rfl
  have x1 := hK.bn.cell (i := 1) rfl
  have x2 := hK.bn.cell (i := 2) rfl
  have x3 := hK.bn.cell (i := 3) rfl
  simp only [Tr.kind, Tr.data, Tr.exec, Tr.v] at x0 x1 x2 x3
  by_cases h0 : treeE (Tr.mk kt dt et (.slice ta kst.length tc) kst : Lt) = 0
  · rw [h0] at hCK
    have HCK := hidd hCK
    have HE0 := hidd (HTB.out.trans h0)
    have HK0 := hidd hK
    clear ht hl hs hB3 hCK h0 hK hR
    go_enter Tryz.func15, Tryz.ntmps15
    go_wp2_with fail
    refine HCK.out.mono ?_
    rintro e w3 ⟨rfl, hb3⟩
    have HK := hidd (HK0.out.later hb3)
    clear x0 x1 x2 x3 hb3 HCK HK0
    go_wp2_with fail
    go_loopw [7, 8, 9] (fun vi _ _ wr => ∃ (i : Nat) (y : Lt), i ≤ ls.length ∧ vi = .int .i64 (i : Int) ∧ RaK w R ls i y wr) (fun vi _ _ _ => ls.length - (intOf vi).toNat)
    case atStart => exact ⟨0, _, Nat.zero_le _, rfl, HK.out⟩
    case round =>
      obtain ⟨i, y, hi, rfl, hk⟩ := hrel
      obtain ⟨ya, yc, hyv⟩ := hk.oy.shape
      obtain ⟨ky, dy, ey, vy, ksy⟩ := y
      simp only [Tr.v, Tr.kids] at hyv
      subst hyv
      have n0 := hk.bn.cell (i := 0) rfl
      have n1 := hk.bn.cell (i := 1) rfl
      have n2 := hk.bn.cell (i := 2) rfl
      have n3 := hk.bn.cell (i := 3) rfl
      simp only [Tr.kind, Tr.data, Tr.exec, Tr.v] at n0 n1 n2 n3
      by_cases hlt : i < ls.length
      · have hL := HLS.out wr hk.below
        obtain ⟨b1, o1, rfl, hb1, a0, a1, a2, a3, a4, a5⟩ := sl_atc hL.sl hlt
        have hco := hL.ok _ (List.getElem_mem hlt)
        have hps := HPS.out _ (List.getElem_mem hlt)
        have hci := HLI.out _ (List.getElem_mem hlt)
        obtain ⟨c, hc⟩ : ∃ c, ls[i] = c := ⟨_, rfl⟩
        have HCC : Hid (ls[i] = c) := hidd hc
        rw [hc] at a0 a1 a2 a3 a4 a5 hco hps hci
        have p1 : (0 : Int) ≤ (i : Int) := by omega
        have p2 : (i : Int) < (ls.length : Int) := by omega
        have HKK := hidd hk
        have hpl := hk.bf.lt
        have hz0 : Below wr.heap.size wr wr.drew := (Below.refl _ _).drew
        have HC := hidd (fun W (h : Below wr.heap.size wr W) => rchange_any (.mk ky dy ey (.slice ya ksy.length yc) ksy) c W (HKK.out.later h).oy (hco.ob h) hps)
        have hzA : Below wr.heap.size wr (wr.alloc (.cells #[.string ⟨#[]⟩, .string ⟨#[]⟩, .bool false, .slice none 0 0] 24)).drew := ((Below.refl _ _).alloc (Nat.le_refl _) _).drew
        have hbA := Blk.drew (Blk.new wr [.string ⟨#[]⟩, .string ⟨#[]⟩, .bool false, .slice none 0 0] 24)
        obtain ⟨nna, nnc, hnv⟩ := hco.shape
        obtain ⟨kc, pc, ⟨kn, dn, en, vn, ksn2⟩⟩ := c
        simp only [Tr.v, Tr.kids, Tr.kind, Tr.data, Tr.exec] at hnv a0 a1 a2 a3 a4 a5 hci
        subst hnv
        unfold nval cval at HC
        simp only [Tr.kind, Tr.data, Tr.exec, Tr.v] at HC
        have hlw : w.heap.size < wr.heap.size := by omega
        have HSC : Hid (∀ W, Below wr.heap.size wr W → (fun W' => W'.cell? ⟨w.heap.size, 0, none⟩ = some (.string ky) ∧ W'.cell? ⟨w.heap.size, 1, none⟩ = some (.string dy) ∧ W'.cell? ⟨w.heap.size, 2, none⟩ = some (.bool ey) ∧ W'.cell? ⟨w.heap.size, 3, none⟩ = some (.slice ya ksy.length yc) ∧ W'.cell? ⟨b1, o1 + i * 6, none⟩ = some (.string kc) ∧ W'.cell? ⟨b1, o1 + i * 6 + 1, none⟩ = some (.string pc) ∧ W'.cell? ⟨b1, o1 + i * 6 + 2, none⟩ = some (.string kn) ∧ W'.cell? ⟨b1, o1 + i * 6 + 3, none⟩ = some (.string dn) ∧ W'.cell? ⟨b1, o1 + i * 6 + 4, none⟩ = some (.bool en) ∧ W'.cell? ⟨b1, o1 + i * 6 + 5, none⟩ = some (.slice nna ksn2.length nnc)) W) := hidd (fun W h =>
          ⟨(h.cell (p := ⟨w.heap.size, 0, none⟩) hlw).trans n0, (h.cell (p := ⟨w.heap.size, 1, none⟩) hlw).trans n1, (h.cell (p := ⟨w.heap.size, 2, none⟩) hlw).trans n2, (h.cell (p := ⟨w.heap.size, 3, none⟩) hlw).trans n3, (h.cell (p := ⟨b1, _, none⟩) hb1).trans a0, (h.cell (p := ⟨b1, _, none⟩) hb1).trans a1, (h.cell (p := ⟨b1, _, none⟩) hb1).trans a2, (h.cell (p := ⟨b1, _, none⟩) hb1).trans a3, (h.cell (p := ⟨b1, _, none⟩) hb1).trans a4, (h.cell (p := ⟨b1, _, none⟩) hb1).trans a5⟩)
        have HCI := hidd hci
        clear hc hL hco hps hk n0 n1 n2 n3 a0 a1 a2 a3 a4 a5 hci
        go_upto_region 7 with fail
        first
          | (go_region_held3 (fun W' => W'.cell? ⟨w.heap.size, 0, none⟩ = some (.string ky) ∧ W'.cell? ⟨w.heap.size, 1, none⟩ = some (.string dy) ∧ W'.cell? ⟨w.heap.size, 2, none⟩ = some (.bool ey) ∧ W'.cell? ⟨w.heap.size, 3, none⟩ = some (.slice ya ksy.length yc) ∧ W'.cell? ⟨b1, o1 + i * 6, none⟩ = some (.string kc) ∧ W'.cell? ⟨b1, o1 + i * 6 + 1, none⟩ = some (.string pc) ∧ W'.cell? ⟨b1, o1 + i * 6 + 2, none⟩ = some (.string kn) ∧ W'.cell? ⟨b1, o1 + i * 6 + 3, none⟩ = some (.string dn) ∧ W'.cell? ⟨b1, o1 + i * 6 + 4, none⟩ = some (.bool en) ∧ W'.cell? ⟨b1, o1 + i * 6 + 5, none⟩ = some (.slice nna ksn2.length nnc))
              (first | exact HSC.out _ hz0 | exact HSC.out _ hzA | exact HSC.out _ hb6w | exact HSC.out _ (hb6w.alloc hb6w.size _) | exact HSC.out _ (below_4 hb6w (Nat.le_refl _) _ _ _ _))
              (first
                | (go_at_call 34; (with_reducible refine (HC.out _ hz0).mono ?_); rintro e w6 ⟨kz, dz, ez, za, zc, ksz, cz, rfl, hb6, hc10, hzo, hzi, hzr⟩; unfold numV; have hb6w := hz0.trans hb6)
                | (go_at_call 34; (with_reducible refine (HC.out _ hzA).mono ?_); rintro e w6 ⟨kz, dz, ez, za, zc, ksz, cz, rfl, hb6, hc10, hzo, hzi, hzr⟩; unfold numV; have hb6w := hzA.trans (hb6.mono hzA.size); have hbx := hbA.below hb6 hbA.lt; have u0 := hbx.cell (i := 0) rfl; have u1 := hbx.cell (i := 1) rfl; have u2 := hbx.cell (i := 2) rfl; have u3 := hbx.cell (i := 3) rfl; have v0 := hbx.frozen 0; have v1 := hbx.frozen 1; have v2 := hbx.frozen 2; have v3 := hbx.frozen 3)))
          | fail
        · have hbX := Blk.new w6 [.string kz, .string dz, .bool ez, .slice za ksz.length zc] 24
          have hbel := hb6w.alloc hb6w.size (.cells #[.string kz, .string dz, .bool ez, .slice za ksz.length zc] 24)
          have HZO : Hid (cz = 0 → (Tr.mk kz dz ez (.slice za ksz.length zc) ksz : Lt).Ok (w6.alloc (.cells #[.string kz, .string dz, .bool ez, .slice za ksz.length zc] 24))) := hidd (fun h0 => hzo.out.alloc _)
          have HZI : Hid (cz = 0 → (Tr.mk kz dz ez (.slice za ksz.length zc) ksz : Lt).In (fun b => b < w.heap.size ∨ w.heap.size + 2 < b)) := hidd (fun h0 => in_mono (fun b hb => by
            rcases hb with hb | hb
            · exact hb
            · have h1 : wr.heap.size ≤ b := hb
              omega) _ (hzi.out h0 _ HKK.out.iy (in_mono (fun b hb => .inl hb) _ HCI.out)))
          have hpxl : w.heap.size + 2 < w6.heap.size := Nat.lt_of_lt_of_le hpl hb6w.size
          clear hzi hzo hb6 hb6w HSC HC hzA hbA hz0
          generalize (w6.alloc (.cells #[.string kz, .string dz, .bool ez, .slice za ksz.length zc] 24)) = W9 at *
          generalize w6.heap.size = px at *
          have x0 := hbX.cell (i := 0) rfl
          have x1 := hbX.cell (i := 1) rfl
          have x2 := hbX.cell (i := 2) rfl
          have x3 := hbX.cell (i := 3) rfl
          have HKD := hidd (HKK.out.later hbel)
          clear hbX hbel
          by_cases hcz : cz = 0
          · subst hcz
            have hok : changeOf (Tr.mk ky dy ey (.slice ya ksy.length yc) ksy : Lt).bare ls[i].bare = .ok (Tr.mk kz dz ez (.slice za ksz.length zc) ksz : Lt).bare := by
              rw [HCC.out]
              have h := hzr.out
              unfold RW at h
              rcases h with ⟨-, h⟩ | ⟨h, -⟩
              · exact absurd rfl h
              · exact h
            have HK8 := hidd (HKD.out.next hlt (HZO.out rfl) (HZI.out rfl) hok)
            have f0 := HKD.out.bn.frozen 0
            have f1 := HKD.out.bn.frozen 1
            have f2 := HKD.out.bn.frozen 2
            have f3 := HKD.out.bn.frozen 3
            have n0 := HKD.out.bn.cell (i := 0) rfl
            have n1 := HKD.out.bn.cell (i := 1) rfl
            have n2 := HKD.out.bn.cell (i := 2) rfl
            have n3 := HKD.out.bn.cell (i := 3) rfl
            simp only [Tr.kind, Tr.data, Tr.exec, Tr.v] at n0 n1 n2 n3
            have g1 : decide (0 < ((0 : Nat) : Int)) = false := rfl
            clear hok HKD HKK HCC hzr
            go_wp2_with fail
            go_roundw
            case rel => exact ⟨i + 1, _, by omega, by go_num, HK8.out⟩
            case measure => simp [intOf]; omega
          · have herr : R = .error (cz, i) := by
              have h := hzr.out
              unfold RW at h
              rcases h with ⟨h, -⟩ | ⟨-, h⟩
              · have h2 := HKK.out.r
                rw [show ls.drop i = ls[i] :: ls.drop (i + 1) from (List.getElem_cons_drop hlt).symm, List.map_cons, HCC.out, applyL_err h] at h2
                exact h2.symm
              · exact absurd h hcz
            have g1 : decide (0 < (cz : Int)) = true := decide_eq_true (by omega)
            have g2 : decide (0 < cz) = true := decide_eq_true (by omega)
            have g3 : 0 < cz := by omega
            have HERR := hidd herr
            have HCZ := hidd hcz
            have f0 := HKD.out.bz.frozen 0
            have f1 := HKD.out.bz.frozen 1
            have f2 := HKD.out.bz.frozen 2
            have f3 := HKD.out.bz.frozen 3
            have y0 := HKD.out.bz.cell (i := 0) rfl
            have y1 := HKD.out.bz.cell (i := 1) rfl
            have y2 := HKD.out.bz.cell (i := 2) rfl
            have y3 := HKD.out.bz.cell (i := 3) rfl
            have f4 := HKD.out.bf.frozen 0
            have f5 := HKD.out.bf.frozen 1
            have y4 := HKD.out.bf.cell (i := 0) rfl
            have y5 := HKD.out.bf.cell (i := 1) rfl
            obtain ⟨hBF, hBk, hBf, hFR⟩ := HKD.out.done (.string ⟨#[]⟩) (.string ⟨#[]⟩) (.bool false) (.slice none 0 0) (.int .i64 (cz : Int)) (.int .i64 (i : Int))
            have r0 := hBk.cell (i := 0) rfl
            have r1 := hBk.cell (i := 1) rfl
            have r2 := hBk.cell (i := 2) rfl
            have r3 := hBk.cell (i := 3) rfl
            have r4 := hBf.cell (i := 0) rfl
            have r5 := hBf.cell (i := 1) rfl
            have HBF := hidd hBF
            clear hBk hBf hFR hBF HKD HKK HCC hzr herr hcz x0 x1 x2 x3
            go_wp2_with fail
            refine bodyPost_ret (v := .tuple #[.agg #[.string ⟨#[]⟩, .string ⟨#[]⟩, .bool false, .slice none 0 0], .agg #[.int .i64 (cz : Int), .int .i64 (i : Int)]]) ?_ rfl ?_
            · rw [results_cells rfl]
              go_simp
            · exact ⟨HBF.out, .inr (.inl ⟨HE0.out, cz, i, by rw [HRR.out]; exact HERR.out, HCZ.out, hc10, rfl⟩)⟩
        · have hFx := (Fr.refl (fun b => b = wr.heap.size) w6).four (p := wr.heap.size) (.inl rfl) (.string kz) (.string dz) (.bool ez) (.slice za ksz.length zc)
          have hbX := hbx.four (x0 := .string kz) (x1 := .string dz) (x2 := .bool ez) (x3 := .slice za ksz.length zc)
          have hbel := below_4 hb6w (Nat.le_refl _) (.string kz) (.string dz) (.bool ez) (.slice za ksz.length zc)
          have hsza : (wr.alloc (.cells #[.string ⟨#[]⟩, .string ⟨#[]⟩, .bool false, .slice none 0 0] 24)).drew.heap.size = wr.heap.size + 1 := by simp
          have HZO : Hid (cz = 0 → (Tr.mk kz dz ez (.slice za ksz.length zc) ksz : Lt).Ok _) := hidd (fun h0 => ok_fr hFx _ hzo.out (in_mono (fun b hb e => by
            rcases hb with hb | hb
            · have h1 : b < wr.heap.size := hb
              omega
            · have h1 : (wr.alloc (.cells #[.string ⟨#[]⟩, .string ⟨#[]⟩, .bool false, .slice none 0 0] 24)).drew.heap.size ≤ b := hb
              omega) _ (hzi.out h0 (fun b => b < wr.heap.size) (ok_in _ HKK.out.oy) (in_mono (fun b hb => by omega) _ HCI.out))))
          have HZI : Hid (cz = 0 → (Tr.mk kz dz ez (.slice za ksz.length zc) ksz : Lt).In (fun b => b < w.heap.size ∨ w.heap.size + 2 < b)) := hidd (fun h0 => in_mono (fun b hb => by
            rcases hb with hb | hb
            · exact hb
            · have h1 : (wr.alloc (.cells #[.string ⟨#[]⟩, .string ⟨#[]⟩, .bool false, .slice none 0 0] 24)).drew.heap.size ≤ b := hb
              omega) _ (hzi.out h0 _ HKK.out.iy (in_mono (fun b hb => .inl hb) _ HCI.out)))
          clear hFx hzi hzo hbx hb6 hb6w hsza HSC HC u0 u1 u2 u3 v0 v1 v2 v3 hzA hbA hz0
          generalize ((((w6.setCell ⟨wr.heap.size, 0, none⟩ (.string kz)).setCell ⟨wr.heap.size, 1, none⟩ (.string dz)).setCell ⟨wr.heap.size, 2, none⟩ (.bool ez)).setCell ⟨wr.heap.size, 3, none⟩ (.slice za ksz.length zc)) = W9 at *
          obtain ⟨px, hpx⟩ : ∃ px, wr.heap.size = px := ⟨_, rfl⟩
          have hpxl : w.heap.size + 2 < px := by omega
          rw [hpx] at hbX ⊢
          clear hpx
          have x0 := hbX.cell (i := 0) rfl
          have x1 := hbX.cell (i := 1) rfl
          have x2 := hbX.cell (i := 2) rfl
          have x3 := hbX.cell (i := 3) rfl
          have HKD := hidd (HKK.out.later hbel)
          clear hbX hbel
          by_cases hcz : cz = 0
          · subst hcz
            have hok : changeOf (Tr.mk ky dy ey (.slice ya ksy.length yc) ksy : Lt).bare ls[i].bare = .ok (Tr.mk kz dz ez (.slice za ksz.length zc) ksz : Lt).bare := by
              rw [HCC.out]
              have h := hzr.out
              unfold RW at h
              rcases h with ⟨-, h⟩ | ⟨h, -⟩
              · exact absurd rfl h
              · exact h
            have HK8 := hidd (HKD.out.next hlt (HZO.out rfl) (HZI.out rfl) hok)
            have f0 := HKD.out.bn.frozen 0
            have f1 := HKD.out.bn.frozen 1
            have f2 := HKD.out.bn.frozen 2
            have f3 := HKD.out.bn.frozen 3
            have n0 := HKD.out.bn.cell (i := 0) rfl
            have n1 := HKD.out.bn.cell (i := 1) rfl
            have n2 := HKD.out.bn.cell (i := 2) rfl
            have n3 := HKD.out.bn.cell (i := 3) rfl
            simp only [Tr.kind, Tr.data, Tr.exec, Tr.v] at n0 n1 n2 n3
            have g1 : decide (0 < ((0 : Nat) : Int)) = false := rfl
            clear hok HKD HKK HCC hzr
            go_wp2_with fail
            go_roundw
            case rel => exact ⟨i + 1, _, by omega, by go_num, HK8.out⟩
            case measure => simp [intOf]; omega
          · have herr : R = .error (cz, i) := by
              have h := hzr.out
              unfold RW at h
              rcases h with ⟨h, -⟩ | ⟨-, h⟩
              · have h2 := HKK.out.r
                rw [show ls.drop i = ls[i] :: ls.drop (i + 1) from (List.getElem_cons_drop hlt).symm, List.map_cons, HCC.out, applyL_err h] at h2
                exact h2.symm
              · exact absurd h hcz
            have g1 : decide (0 < (cz : Int)) = true := decide_eq_true (by omega)
            have g2 : decide (0 < cz) = true := decide_eq_true (by omega)
            have g3 : 0 < cz := by omega
            have HERR := hidd herr
            have HCZ := hidd hcz
            have f0 := HKD.out.bz.frozen 0
            have f1 := HKD.out.bz.frozen 1
            have f2 := HKD.out.bz.frozen 2
            have f3 := HKD.out.bz.frozen 3
            have y0 := HKD.out.bz.cell (i := 0) rfl
            have y1 := HKD.out.bz.cell (i := 1) rfl
            have y2 := HKD.out.bz.cell (i := 2) rfl
            have y3 := HKD.out.bz.cell (i := 3) rfl
            have f4 := HKD.out.bf.frozen 0
            have f5 := HKD.out.bf.frozen 1
            have y4 := HKD.out.bf.cell (i := 0) rfl
            have y5 := HKD.out.bf.cell (i := 1) rfl
            obtain ⟨hBF, hBk, hBf, hFR⟩ := HKD.out.done (.string ⟨#[]⟩) (.string ⟨#[]⟩) (.bool false) (.slice none 0 0) (.int .i64 (cz : Int)) (.int .i64 (i : Int))
            have r0 := hBk.cell (i := 0) rfl
            have r1 := hBk.cell (i := 1) rfl
            have r2 := hBk.cell (i := 2) rfl
            have r3 := hBk.cell (i := 3) rfl
            have r4 := hBf.cell (i := 0) rfl
            have r5 := hBf.cell (i := 1) rfl
            have HBF := hidd hBF
            clear hBk hBf hFR hBF HKD HKK HCC hzr herr hcz x0 x1 x2 x3
            go_wp2_with fail
            refine bodyPost_ret (v := .tuple #[.agg #[.string ⟨#[]⟩, .string ⟨#[]⟩, .bool false, .slice none 0 0], .agg #[.int .i64 (cz : Int), .int .i64 (i : Int)]]) ?_ rfl ?_
            · rw [results_cells rfl]
              go_simp
            · exact ⟨HBF.out, .inr (.inl ⟨HE0.out, cz, i, by rw [HRR.out]; exact HERR.out, HCZ.out, hc10, rfl⟩)⟩
      · obtain rfl : i = ls.length := by omega
        have hr := hk.r
        rw [List.drop_of_length_le (Nat.le_refl _), List.map_nil, applyL_nil] at hr
        have HKE := hidd hk
        have HRE := hidd hr
        clear hk hr
        have hz0 : Below wr.heap.size wr wr.drew := (Below.refl _ _).drew
        have hlw : w.heap.size + 2 < wr.heap.size := HKE.out.bf.lt
        have HFN := hidd (fine_fn wr.drew)
        go_upto_region 11 with fail
        obtain ⟨N, hN⟩ : ∃ N, w.heap.size = N := ⟨_, rfl⟩
        have hbn := HKE.out.bn
        have hbz := HKE.out.bz
        have hbf := HKE.out.bf
        rw [hN] at n0 n1 n2 n3 hbn hbz hbf ⊢
        clear hlw
        first
          | (go_region_with
              (go_at_call 35; (with_reducible refine HFN.out.mono ?_); rintro e w4 ⟨rfl, hb4⟩; have hz4 := hz0.trans hb4; have hk4 := hbz.below hz4 hbz.lt; have hf4 := hbf.below hz4 hbf.lt; have hn4 := hbn.below hz4 hbn.lt; have m0 := hn4.cell (i := 0) rfl; have m1 := hn4.cell (i := 1) rfl; have m2 := hn4.cell (i := 2) rfl; have m3 := hn4.cell (i := 3) rfl; simp only [Tr.kind, Tr.data, Tr.exec, Tr.v] at m0 m1 m2 m3; have f0 := hk4.frozen 0; have f1 := hk4.frozen 1; have f2 := hk4.frozen 2; have f3 := hk4.frozen 3; have y0 := hk4.cell (i := 0) rfl; have y1 := hk4.cell (i := 1) rfl; have y2 := hk4.cell (i := 2) rfl; have y3 := hk4.cell (i := 3) rfl; have f4 := hf4.frozen 0; have f5 := hf4.frozen 1; have y4 := hf4.cell (i := 0) rfl; have y5 := hf4.cell (i := 1) rfl))
          | fail
        all_goals
          obtain ⟨hBF, hBk, hBf, hFR⟩ := (HKE.out.later hz4).done (.string ky) (.string dy) (.bool ey) (.slice ya ksy.length yc) (.int .i64 0) (.int .i64 (-1))
          have HYO := hidd (ok_fr hFR _ (HKE.out.later hz4).oy (in_mono (fun b hb e => by omega) _ HKE.out.iy))
          have HBF := hidd hBF
          rw [hN] at hBk hBf
          have r0 := hBk.cell (i := 0) rfl
          have r1 := hBk.cell (i := 1) rfl
          have r2 := hBk.cell (i := 2) rfl
          have r3 := hBk.cell (i := 3) rfl
          have r4 := hBf.cell (i := 0) rfl
          have r5 := hBf.cell (i := 1) rfl
          rw [hN] at HBF HYO
          have HNE := hidd hN
          clear hBk hBf hFR hBF m0 m1 m2 m3 f0 f1 f2 f3 f4 f5 y0 y1 y2 y3 y4 y5 hn4 hk4 hf4 hz4 hb4 hN
          go_wp2_with fail
          refine bodyPost_ret (v := .tuple #[.agg #[.string ky, .string dy, .bool ey, .slice ya ksy.length yc], .agg #[.int .i64 0, .int .i64 (-1)]]) ?_ rfl ?_
          · rw [results_cells rfl]
            go_simp
          · exact ⟨by rw [HNE.out]; exact HBF.out, .inr (.inr ⟨HE0.out, .mk ky dy ey (.slice ya ksy.length yc) ksy, by rw [HRR.out]; exact HRE.out.symm, rfl, HYO.out⟩)⟩
  · have hbd : treeE (Tr.mk kt dt et (.slice ta kst.length tc) kst : Lt) ≤ 10 := scan_bd _ 0
    have HC0 : Hid (treeE (Tr.mk kt dt et (.slice ta kst.length tc) kst : Lt).bare ≠ 0) := hidd (by rw [HTB.out]; exact h0)
    obtain ⟨cc, hcc⟩ : ∃ c, treeE (Tr.mk kt dt et (.slice ta kst.length tc) kst : Lt) = c := ⟨_, rfl⟩
    have HCC := hidd hcc
    rw [hcc] at hCK h0 hbd
    have HCK := hidd hCK
    have g1 : decide (0 < (cc : Int)) = true := decide_eq_true (by omega)
    have g2 : decide (0 < cc) = true := decide_eq_true (by omega)
    have g3 : 0 < cc := by omega
    have HK0 := hidd hK
    have HCN := hidd h0
    clear ht hl hs hB3 hCK h0 hK hR hcc
    go_enter Tryz.func15, Tryz.ntmps15
    go_wp2_with fail
    refine HCK.out.mono ?_
    rintro e w3 ⟨rfl, hb3⟩
    have HK := hidd (HK0.out.later hb3)
    clear x0 x1 x2 x3 hb3 HCK HK0
    go_wp2_with fail
    refine (bare_fn _ _).mono ?_
    rintro e w4 ⟨rfl, hb4⟩
    have HKD := hidd (HK.out.later hb4)
    clear hb4
    have f0 := HKD.out.bz.frozen 0
    have f1 := HKD.out.bz.frozen 1
    have f2 := HKD.out.bz.frozen 2
    have f3 := HKD.out.bz.frozen 3
    have y0 := HKD.out.bz.cell (i := 0) rfl
    have y1 := HKD.out.bz.cell (i := 1) rfl
    have y2 := HKD.out.bz.cell (i := 2) rfl
    have y3 := HKD.out.bz.cell (i := 3) rfl
    have f4 := HKD.out.bf.frozen 0
    have f5 := HKD.out.bf.frozen 1
    have y4 := HKD.out.bf.cell (i := 0) rfl
    have y5 := HKD.out.bf.cell (i := 1) rfl
    obtain ⟨hBF, hBk, hBf, hFR⟩ := HKD.out.done (.string ⟨#[]⟩) (.string ⟨#[]⟩) (.bool false) (.slice none 0 0) (.int .i64 (cc : Int)) (.int .i64 (-1))
    have r0 := hBk.cell (i := 0) rfl
    have r1 := hBk.cell (i := 1) rfl
    have r2 := hBk.cell (i := 2) rfl
    have r3 := hBk.cell (i := 3) rfl
    have r4 := hBf.cell (i := 0) rfl
    have r5 := hBf.cell (i := 1) rfl
    have HBF := hidd hBF
    clear hBk hBf hFR hBF HKD HK
    go_wp2_with fail
    refine bodyPost_ret (v := .tuple #[.agg #[.string ⟨#[]⟩, .string ⟨#[]⟩, .bool false, .slice none 0 0], .agg #[.int .i64 (cc : Int), .int .i64 (-1)]]) ?_ rfl ?_
    · rw [results_cells rfl]
      go_simp
    · exact ⟨HBF.out, .inl ⟨cc, by rw [HTB.out, HCC.out], HCN.out, hbd, rfl⟩⟩
end Go.Proofs.YtoaedkinlnkkhaaGreatDoor
