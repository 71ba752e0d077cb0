/- The contract of path.Drop. Condition: the tree is there, the text is no longer than memory reaches, the variables read as listed. -/
import Derived.Test.YtbadnmfmncjdjaaGreatDoorPwQ
namespace Go.Proofs.YtbadnmfmncjdjaaGreatDoor
open Go.RowKit Go.Shelf

theorem dropOf_err {α : Type} {t : Tr α} {s : ByteArray} (h : treeE t ≠ 0) : dropOf t s = .error (treeE t) := by unfold dropOf; rw [if_neg h]
theorem dropOf_split {α : Type} {t : Tr α} {s : ByteArray} (h : treeE t = 0) (hs : splitOf s = none) : dropOf t s = .error 5 := by unfold dropOf; rw [if_pos h, hs]
theorem dropOf_root {α : Type} {t : Tr α} {s : ByteArray} (h : treeE t = 0) (hs : splitOf s = some []) : dropOf t s = .error 3 := by unfold dropOf; rw [if_pos h, hs]; simp
theorem dropOf_none {α : Type} {t : Tr α} {s : ByteArray} {l : List ByteArray} (h : treeE t = 0) (hs : splitOf s = some l) (hl : l ≠ []) (ha : atT t l = none) : dropOf t s = .error 6 := by unfold dropOf; rw [if_pos h, hs]; simp only [if_neg hl, ha]
theorem dropOf_ok {α : Type} {t x : Tr α} {s : ByteArray} {l : List ByteArray} (h : treeE t = 0) (hs : splitOf s = some l) (hl : l ≠ []) (ha : atT t l = some x) : dropOf t s = .ok (withoutT l t) := by unfold dropOf; rw [if_pos h, hs]; simp only [if_neg hl, ha]

/-- What stands while path.Drop goes. -/
structure DpK (E : Nat → Addr) (B : Nat) (w : World) (t : Lt) (W : World) : Prop where
  bt : Blk W w.heap.size (ncells t) 24
  bz : Blk W (w.heap.size + 1) [.string ⟨#[]⟩, .string ⟨#[]⟩, .bool false, .slice none 0 0] 24
  ot : t.Ok W
  env : Env trGs B W E
  ml : Ml W
  below : Below w.heap.size w W
section
variable {E : Nat → Addr} {B : Nat} {w : World} {t : Lt} {W W' : World}
theorem DpK.later (h : DpK E B w t W) (hb : Below W.heap.size W W') : DpK E B w t W' :=
  ⟨h.bt.below hb h.bt.lt, h.bz.below hb h.bz.lt, h.ot.ob hb, h.env.ob hb, h.ml.ob hb, h.below.trans (hb.mono h.below.size)⟩
theorem DpK.alloc (h : DpK E B w t W) (o : Obj) : DpK E B w t (W.alloc o) := h.later ((Below.refl _ _).alloc (Nat.le_refl _) o)
theorem DpK.done (h : DpK E B w t W) (c0 c1 c2 c3 : Value) : Below w.heap.size w ((((W.setCell ⟨w.heap.size + 1, 0, none⟩ c0).setCell ⟨w.heap.size + 1, 1, none⟩ c1).setCell ⟨w.heap.size + 1, 2, none⟩ c2).setCell ⟨w.heap.size + 1, 3, none⟩ c3) ∧
    Blk ((((W.setCell ⟨w.heap.size + 1, 0, none⟩ c0).setCell ⟨w.heap.size + 1, 1, none⟩ c1).setCell ⟨w.heap.size + 1, 2, none⟩ c2).setCell ⟨w.heap.size + 1, 3, none⟩ c3) (w.heap.size + 1) [c0, c1, c2, c3] 24 ∧ Fr (fun b => b = w.heap.size + 1) W ((((W.setCell ⟨w.heap.size + 1, 0, none⟩ c0).setCell ⟨w.heap.size + 1, 1, none⟩ c1).setCell ⟨w.heap.size + 1, 2, none⟩ c2).setCell ⟨w.heap.size + 1, 3, none⟩ c3) := by
  have hF := (Fr.refl (fun b => b = w.heap.size + 1) W).four (p := w.heap.size + 1) (.inl rfl) c0 c1 c2 c3
  exact ⟨h.below.trans (hF.below h.below.size (fun b e => by omega)), h.bz.four, hF⟩
end

set_option maxRecDepth 100000 in
set_option maxHeartbeats 8000000 in
theorem drop_any (E : Nat → Addr) (B : Nat) (t : Lt) (s : ByteArray) (w : World) (ht : t.Ok w) (hE : Env trGs B w E) (hM : Ml w) (hs : s.size < 4294967281) :
    Calls Tryz.prog 13 #[nval t, .string s] w (MadeP E (dropOf t.bare s) w) := by
  obtain ⟨a, cap, hv⟩ := ht.shape
  have hB0 := two_below w #[.string t.kind, .string t.data, .bool t.exec, .slice a t.kids.length cap] #[.string ⟨#[]⟩, .string ⟨#[]⟩, .bool false, .slice none 0 0] 24
  have hWK := out_start t none 0 [] w a cap hv ht (Sl.empty w none 0 1 (by unfold maxLen; omega))
  have hK : DpK E B w t ((w.alloc (.cells #[.string t.kind, .string t.data, .bool t.exec, .slice a t.kids.length cap] 24)).alloc (.cells #[.string ⟨#[]⟩, .string ⟨#[]⟩, .bool false, .slice none 0 0] 24)) :=
    ⟨hWK.bt, hWK.bz, ht.ob hB0, hE.ob hB0, hM.ob hB0, hB0⟩
  have hb0 : treeE t.bare = treeE t := treeE_map _ t
  have hBs : B ≤ w.heap.size := hE.size
  have hg6 : 0 < B := hE.glt 0 (by decide)
  have hg3 : 1 < B := hE.glt 1 (by decide)
  have hne : ¬ (0 = w.heap.size + 1) := by omega
  have hne2 : ¬ (w.heap.size + 1 = 0) := by omega
  have hne3 : ¬ (1 = w.heap.size + 1) := by omega
  have hne4 : ¬ (w.heap.size + 1 = 1) := by omega
  clear hBs hg6 hg3
  by_cases h0 : treeE t = 0
  · have HN := hidd (names_ok E B t s _ hK.ot hK.env hK.ml hs h0)
    have HT0 := hidd h0
    have HT0b := hidd (hb0.trans h0)
    obtain ⟨kd, da, ex', va, ks⟩ := t
    simp only [Tr.kind, Tr.data, Tr.exec, Tr.v, Tr.kids] at hK hv HN
    subst hv
    have HAT := hidd (fun W l v (h : DpK E B w (.mk kd da ex' (.slice a ks.length cap) ks) W) (hl : Sl W v (tcells l) l.length 1) => at_any _ v l W h.ot h0 hl)
    have HWO := hidd (fun W l v z (h : DpK E B w (.mk kd da ex' (.slice a ks.length cap) ks) W) (hl : Sl W v (tcells l) l.length 1) (hn : l ≠ []) (ha : atT (Tr.mk kd da ex' (.slice a ks.length cap) ks : Lt) l = some z) => without_any l _ z v W hn ha h.ot h0 hl)
    unfold nval at HN HAT HWO ⊢
    simp only [Tr.kind, Tr.data, Tr.exec, Tr.v] at HN HAT HWO ⊢
    have x0 := hK.bt.cell (i := 0) rfl
    have x1 := hK.bt.cell (i := 1) rfl
    have x2 := hK.bt.cell (i := 2) rfl
    have x3 := hK.bt.cell (i := 3) rfl
    simp only [Tr.kind, Tr.data, Tr.exec, Tr.v] at x0 x1 x2 x3
    have HK := hidd hK
    clear hWK hE hM hB0 hb0 h0 ht hs hK
    go_enter Tryz.func13, Tryz.ntmps13
    go_wp2_with fail
    refine HN.out.mono ?_
    rintro e w2 ⟨hb2, hr⟩
    have hK2 := HK.out.later hb2
    clear x0 x1 x2 x3 HN HK
    rcases hr with ⟨l, v, hsp, rfl, hsl⟩ | ⟨hsp, rfl⟩
    · obtain ⟨la, lc, rfl, -⟩ := id hsl
      have HP := hidd hsp
      by_cases hl0 : l = []
      · subst hl0
        have HG2 := hidd (dropOf_root HT0b.out hsp)
        have HV : Hid (evc E 3 = .iface 203 (.pointer (some (E 1)))) := hidd rfl
        have hcE := hK2.env.cell 1 (by decide)
        unfold erv at hcE
        have f0 := hK2.bz.frozen 0
        have f1 := hK2.bz.frozen 1
        have f2 := hK2.bz.frozen 2
        have f3 := hK2.bz.frozen 3
        have y0 := hK2.bz.cell (i := 0) rfl
        have y1 := hK2.bz.cell (i := 1) rfl
        have y2 := hK2.bz.cell (i := 2) rfl
        have y3 := hK2.bz.cell (i := 3) rfl
        obtain ⟨hBF, hBk, hFR⟩ := hK2.done (.string ⟨#[]⟩) (.string ⟨#[]⟩) (.bool false) (.slice none 0 0)
        have r0 := hBk.cell (i := 0) rfl
        have r1 := hBk.cell (i := 1) rfl
        have r2 := hBk.cell (i := 2) rfl
        have r3 := hBk.cell (i := 3) rfl
        clear hK2 hb2 hsp HAT HWO hBk hFR hsl
        go_wp2_with fail
        go_region
        all_goals
          go_wp2_with fail
          refine bodyPost_ret (v := .tuple #[.agg #[.string ⟨#[]⟩, .string ⟨#[]⟩, .bool false, .slice none 0 0], evc E 3]) ?_ rfl ?_
          · rw [results_cell_tmp rfl]
            rw [HV.out]
            go_simp
          · exact ⟨hBF.drew, .inl ⟨3, HG2.out, by decide, by decide, rfl⟩⟩
      · have hlp : 0 < l.length := List.length_pos_iff.2 hl0
        have hlz : ((l.length : Int) == 0) = false := by simp; omega
        have HC := hidd (HAT.out _ l _ hK2 hsl)
        have HL0 := hidd hl0
        have HSL := hidd hsl
        have x0 := hK2.bt.cell (i := 0) rfl
        have x1 := hK2.bt.cell (i := 1) rfl
        have x2 := hK2.bt.cell (i := 2) rfl
        have x3 := hK2.bt.cell (i := 3) rfl
        simp only [Tr.kind, Tr.data, Tr.exec, Tr.v] at x0 x1 x2 x3
        clear hsp HAT hb2 hl0 hsl hlp
        go_wp2_with fail
        refine HC.out.mono ?_
        rintro e w3 ⟨hb3, hr3⟩
        have hK3 := hK2.later hb3
        have hsl3 := HSL.out.ob hb3 (Nat.le_refl _)
        clear x0 x1 x2 x3 hK2 HC HSL hb3
        rcases hr3 with ⟨x, hx, rfl⟩ | ⟨hx, rfl⟩
        · have hb1 := atT_map (fun _ => ()) l (Tr.mk kd da ex' (.slice a ks.length cap) ks : Lt)
          rw [hx] at hb1
          have HG2 := hidd (dropOf_ok HT0b.out HP.out HL0.out hb1)
          have HXO := atT_ok hK3.ot hx
          obtain ⟨xa, xc, hxv⟩ := HXO.shape
          obtain ⟨kx, dx, ex, vx, ksx⟩ := x
          simp only [Tr.v, Tr.kids] at hxv
          subst hxv
          rw [show nval (Tr.mk kx dx ex (.slice xa ksx.length xc) ksx : Lt) = .agg #[.string kx, .string dx, .bool ex, .slice xa ksx.length xc] from rfl]
          have hK4 := hK3.alloc (.cells #[.string kx, .string dx, .bool ex, .slice xa ksx.length xc] 24)
          have HC := hidd (HWO.out _ l _ _ hK4 (hsl3.ob ((Below.refl _ _).alloc (Nat.le_refl _) _) (Nat.le_refl _)) HL0.out hx)
          have x0 := hK4.bt.cell (i := 0) rfl
          have x1 := hK4.bt.cell (i := 1) rfl
          have x2 := hK4.bt.cell (i := 2) rfl
          have x3 := hK4.bt.cell (i := 3) rfl
          simp only [Tr.kind, Tr.data, Tr.exec, Tr.v] at x0 x1 x2 x3
          clear hb1 hx HXO HWO hK3 hsl3
          go_wp2_with fail
          refine HC.out.mono ?_
          rintro e w5 ⟨ky, dy, ey, ya, yc, ksy, rfl, hy5, hi5, hb5, hm5⟩
          have hK5 := hK4.later hb5
          have hyr : treeE (Tr.mk ky dy ey (.slice ya ksy.length yc) ksy : Lt) = 0 := by
            have h1 : treeE (Tr.mk ky dy ey (.slice ya ksy.length yc) ksy : Lt).bare = treeE (Tr.mk ky dy ey (.slice ya ksy.length yc) ksy : Lt) := treeE_map _ _
            rw [← h1, hm5.out]; exact without_right HT0b.out
          have HCP := hidd (copy_any 300 (.mk ky dy ey (.slice ya ksy.length yc) ksy) w5 (by have := right_sz hyr; omega) (Nat.le_refl _) hy5.out)
          unfold nval at HCP
          simp only [Tr.kind, Tr.data, Tr.exec, Tr.v] at HCP
          clear x0 x1 x2 x3 hK4 hb5 hyr hi5 hy5 HC
          go_wp2_with fail
          refine HCP.out.mono ?_
          rintro e w6 ⟨pa, pc, ksp, rfl, hbr, hpo, hpi, hb6⟩
          simp only [Tr.kind, Tr.data, Tr.exec] at hbr hpo hpi ⊢
          have hK6 := hK5.later hb6
          have f0 := hK6.bz.frozen 0
          have f1 := hK6.bz.frozen 1
          have f2 := hK6.bz.frozen 2
          have f3 := hK6.bz.frozen 3
          have y0 := hK6.bz.cell (i := 0) rfl
          have y1 := hK6.bz.cell (i := 1) rfl
          have y2 := hK6.bz.cell (i := 2) rfl
          have y3 := hK6.bz.cell (i := 3) rfl
          obtain ⟨hBF, hBk, hFR⟩ := hK6.done (.string ky) (.string dy) (.bool ey) (.slice pa ksp.length pc)
          have r0 := hBk.cell (i := 0) rfl
          have r1 := hBk.cell (i := 1) rfl
          have r2 := hBk.cell (i := 2) rfl
          have r3 := hBk.cell (i := 3) rfl
          have hz5 : w.heap.size + 1 < w5.heap.size := hK5.bz.lt
          have HPO := hidd (ok_fr hFR _ hpo (in_mono (fun b hb e => by omega) _ hpi))
          have HPI := hidd (in_mono (G := fun b => w.heap.size ≤ b ∧ b < ((((w6.setCell ⟨w.heap.size + 1, 0, none⟩ (.string ky)).setCell ⟨w.heap.size + 1, 1, none⟩ (.string dy)).setCell ⟨w.heap.size + 1, 2, none⟩ (.bool ey)).setCell ⟨w.heap.size + 1, 3, none⟩ (.slice pa ksp.length pc)).heap.size) (fun b (hb : w5.heap.size ≤ b ∧ b < w6.heap.size) => ⟨by omega, by have := hFR.size; omega⟩) _ hpi)
          have HBR := hidd (hbr.trans hm5.out)
          clear hbr hpo hpi hK5 hK6 hb6 hBk hFR HCP hm5
          go_wp2_with fail
          refine bodyPost_ret (v := .tuple #[.agg #[.string ky, .string dy, .bool ey, .slice pa ksp.length pc], .nilIface]) ?_ rfl ?_
          · rw [results_cell_tmp rfl]
            go_simp
          · exact ⟨hBF, .inr ⟨_, by rw [HBR.out]; exact HG2.out, rfl, HPO.out, HPI.out⟩⟩
        · have hb1 := atT_map (fun _ => ()) l (Tr.mk kd da ex' (.slice a ks.length cap) ks : Lt)
          rw [hx] at hb1
          have HG2 := hidd (dropOf_none HT0b.out HP.out HL0.out hb1)
          have HV : Hid (evc E 6 = .iface 203 (.pointer (some (E 0)))) := hidd rfl
          unfold nodeZ
          have hK4 := hK3.alloc (.cells #[.string ⟨#[]⟩, .string ⟨#[]⟩, .bool false, .slice none 0 0] 24)
          have hcE := hK4.env.cell 0 (by decide)
          unfold erv at hcE
          have f0 := hK4.bz.frozen 0
          have f1 := hK4.bz.frozen 1
          have f2 := hK4.bz.frozen 2
          have f3 := hK4.bz.frozen 3
          have y0 := hK4.bz.cell (i := 0) rfl
          have y1 := hK4.bz.cell (i := 1) rfl
          have y2 := hK4.bz.cell (i := 2) rfl
          have y3 := hK4.bz.cell (i := 3) rfl
          obtain ⟨hBF, hBk, hFR⟩ := hK4.done (.string ⟨#[]⟩) (.string ⟨#[]⟩) (.bool false) (.slice none 0 0)
          have r0 := hBk.cell (i := 0) rfl
          have r1 := hBk.cell (i := 1) rfl
          have r2 := hBk.cell (i := 2) rfl
          have r3 := hBk.cell (i := 3) rfl
          clear hK3 hK4 hb1 hx HWO hBk hFR hsl3
          go_wp2_with fail
          go_region
          all_goals
            go_wp2_with fail
            refine bodyPost_ret (v := .tuple #[.agg #[.string ⟨#[]⟩, .string ⟨#[]⟩, .bool false, .slice none 0 0], evc E 6]) ?_ rfl ?_
            · rw [results_cell_tmp rfl]
              rw [HV.out]
              go_simp
            · exact ⟨hBF.drew, .inl ⟨6, HG2.out, by decide, by decide, rfl⟩⟩
    · have HG2 := hidd (dropOf_split HT0b.out hsp)
      have HV : Hid (evc E 5 = .iface 203 (.pointer (some (E 2)))) := hidd rfl
      rw [HV.out]
      have f0 := hK2.bz.frozen 0
      have f1 := hK2.bz.frozen 1
      have f2 := hK2.bz.frozen 2
      have f3 := hK2.bz.frozen 3
      have y0 := hK2.bz.cell (i := 0) rfl
      have y1 := hK2.bz.cell (i := 1) rfl
      have y2 := hK2.bz.cell (i := 2) rfl
      have y3 := hK2.bz.cell (i := 3) rfl
      obtain ⟨hBF, hBk, hFR⟩ := hK2.done (.string ⟨#[]⟩) (.string ⟨#[]⟩) (.bool false) (.slice none 0 0)
      have r0 := hBk.cell (i := 0) rfl
      have r1 := hBk.cell (i := 1) rfl
      have r2 := hBk.cell (i := 2) rfl
      have r3 := hBk.cell (i := 3) rfl
      clear hK2 hb2 hsp HAT HWO hBk hFR
      go_wp2_with fail
      refine bodyPost_ret (v := .tuple #[.agg #[.string ⟨#[]⟩, .string ⟨#[]⟩, .bool false, .slice none 0 0], evc E 5]) ?_ rfl ?_
      · rw [results_cell_tmp rfl]
        rw [HV.out]
        go_simp
      · exact ⟨hBF, .inl ⟨5, HG2.out, by decide, by decide, rfl⟩⟩
  · have HN := names_bad E B t s _ hK.ot hK.env h0
    have HG2 := hidd (dropOf_err (s := s) (by rw [hb0]; exact h0))
    rw [hb0] at HG2
    have hbd : treeE t ≤ 10 := scan_bd _ 0
    obtain ⟨kd, da, ex', va, ks⟩ := t
    simp only [Tr.kind, Tr.data, Tr.exec, Tr.v, Tr.kids] at hK hv HN
    subst hv
    obtain ⟨c, hc⟩ : ∃ c, treeE (Tr.mk kd da ex' (.slice a ks.length cap) ks : Lt) = c := ⟨_, rfl⟩
    rw [hc] at HN HG2 hbd h0
    have HV := hidd (evc_ne (E := E) h0)
    rw [HV.out] at HN
    have HNH := hidd HN
    have HC0 := hidd h0
    unfold nval at HNH ⊢
    simp only [Tr.kind, Tr.data, Tr.exec, Tr.v] at HNH ⊢
    have x0 := hK.bt.cell (i := 0) rfl
    have x1 := hK.bt.cell (i := 1) rfl
    have x2 := hK.bt.cell (i := 2) rfl
    have x3 := hK.bt.cell (i := 3) rfl
    simp only [Tr.kind, Tr.data, Tr.exec, Tr.v] at x0 x1 x2 x3
    have HK := hidd hK
    clear hWK hE hM hB0 hb0 h0 ht hs hK HN hc
    go_enter Tryz.func13, Tryz.ntmps13
    go_wp2_with fail
    refine HNH.out.mono ?_
    rintro e w2 ⟨rfl, hb2⟩
    have hK2 := HK.out.later hb2
    have f0 := hK2.bz.frozen 0
    have f1 := hK2.bz.frozen 1
    have f2 := hK2.bz.frozen 2
    have f3 := hK2.bz.frozen 3
    have y0 := hK2.bz.cell (i := 0) rfl
    have y1 := hK2.bz.cell (i := 1) rfl
    have y2 := hK2.bz.cell (i := 2) rfl
    have y3 := hK2.bz.cell (i := 3) rfl
    obtain ⟨hBF, hBk, hFR⟩ := hK2.done (.string ⟨#[]⟩) (.string ⟨#[]⟩) (.bool false) (.slice none 0 0)
    have r0 := hBk.cell (i := 0) rfl
    have r1 := hBk.cell (i := 1) rfl
    have r2 := hBk.cell (i := 2) rfl
    have r3 := hBk.cell (i := 3) rfl
    clear hK2 hb2 hBk hFR HNH HK x0 x1 x2 x3
    go_wp2_with fail
    refine bodyPost_ret (v := .tuple #[.agg #[.string ⟨#[]⟩, .string ⟨#[]⟩, .bool false, .slice none 0 0], evc E c]) ?_ rfl ?_
    · rw [results_cell_tmp rfl]
      rw [HV.out]
      go_simp
    · exact ⟨hBF, .inl ⟨c, HG2.out, HC0.out, hbd, rfl⟩⟩
end Go.Proofs.YtbadnmfmncjdjaaGreatDoor
