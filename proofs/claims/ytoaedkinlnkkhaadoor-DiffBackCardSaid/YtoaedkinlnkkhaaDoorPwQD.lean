/- The contracts of path.Put and path.Drop. Condition: the trees are there, the text is no longer than memory reaches, the variables read as listed. · The contract of path.Drop. Condition: the tree is there, the text is no longer than memory reaches, the variables read as listed. -/
import Derived.Test.YtoaedkinlnkkhaaDoorPwU
import Derived.Test.YtoaedkinlnkkhaaDoorPaF
namespace Go.Proofs.YtoaedkinlnkkhaaDoor
open Go.RowKit Go.Shelf

theorem isName_size {s : ByteArray} (h : isName s = true) : s.size ≤ 12 := by
  unfold isName at h
  simp only [Bool.and_eq_true, decide_eq_true_eq] at h
  exact h.1.1.2
theorem split_size {s : ByteArray} {l : List ByteArray} (h : splitOf s = some l) : ∀ m ∈ l, m.size ≤ 140737488351232 := fun m hm => by
  have := isName_size (List.all_eq_true.1 (splitOf_names h).2 m hm)
  omega

theorem putOf_err {α : Type} {t x : Tr α} {s : ByteArray} (h : treeE t ≠ 0) : putOf t s x = .error (treeE t) := by unfold putOf; rw [if_neg h]
theorem putOf_split {α : Type} {t x : Tr α} {s : ByteArray} (h : treeE t = 0) (hs : splitOf s = none) : putOf t s x = .error 5 := by unfold putOf; rw [if_pos h, hs]
theorem putOf_none {α : Type} {t x : Tr α} {s : ByteArray} {l : List ByteArray} (h : treeE t = 0) (hs : splitOf s = some l) (hw : withT x l t = none) : putOf t s x = .error 6 := by unfold putOf; rw [if_pos h, hs]; simp only [hw]
theorem putOf_bad {α : Type} {t x y : Tr α} {s : ByteArray} {l : List ByteArray} (h : treeE t = 0) (hs : splitOf s = some l) (hw : withT x l t = some y) (hy : treeE y ≠ 0) : putOf t s x = .error (treeE y) := by unfold putOf; rw [if_pos h, hs]; simp only [hw]; rw [if_neg hy]
theorem putOf_ok {α : Type} {t x y : Tr α} {s : ByteArray} {l : List ByteArray} (h : treeE t = 0) (hs : splitOf s = some l) (hw : withT x l t = some y) (hy : treeE y = 0) : putOf t s x = .ok y := by unfold putOf; rw [if_pos h, hs]; simp only [hw]; rw [if_pos hy]
theorem putOf_inv {α : Type} {t x y : Tr α} {s : ByteArray} (h : putOf t s x = .ok y) : treeE t = 0 ∧ treeE y = 0 ∧ ∃ l, splitOf s = some l ∧ withT x l t = some y := by
  by_cases h0 : treeE t = 0
  · cases hs : splitOf s with
    | none => rw [putOf_split h0 hs] at h; cases h
    | some l =>
      cases hw : withT x l t with
      | none => rw [putOf_none h0 hs hw] at h; cases h
      | some z =>
        by_cases hz : treeE z = 0
        · rw [putOf_ok h0 hs hw hz] at h
          obtain rfl := Except.ok.inj h
          exact ⟨h0, hz, l, rfl, hw⟩
        · rw [putOf_bad h0 hs hw hz] at h; cases h
  · rw [putOf_err h0] at h; cases h

/-- What a call gives that makes a tree of its own, or an error. -/
def MadeP (E : Nat → Addr) (R : Except Nat Nd) (w : World) (e : Ending) (w' : World) : Prop :=
  Below w.heap.size w w' ∧ ((∃ c, R = .error c ∧ c ≠ 0 ∧ c ≤ 10 ∧ e = .returned (.tuple #[nodeZ, evc E c])) ∨
    (∃ y : Lt, R = .ok y.bare ∧ e = .returned (.tuple #[nval y, .nilIface]) ∧ y.Ok w' ∧ y.In (fun b => w.heap.size ≤ b ∧ b < w'.heap.size)))

/-- What stands while path.Put goes. -/
structure PuK (E : Nat → Addr) (B : Nat) (w : World) (t x : Lt) (W : World) : Prop where
  bt : Blk W w.heap.size (ncells t) 24
  bx : Blk W (w.heap.size + 1) (ncells x) 24
  bz : Blk W (w.heap.size + 2) [.string ⟨#[]⟩, .string ⟨#[]⟩, .bool false, .slice none 0 0] 24
  ot : t.Ok W
  ox : x.Ok W
  env : Env trGs B W E
  ml : Ml W
  below : Below w.heap.size w W
section
variable {E : Nat → Addr} {B : Nat} {w : World} {t x : Lt} {W W' : World}
theorem PuK.later (h : PuK E B w t x W) (hb : Below W.heap.size W W') : PuK E B w t x W' :=
  ⟨h.bt.below hb h.bt.lt, h.bx.below hb h.bx.lt, h.bz.below hb h.bz.lt, h.ot.ob hb, h.ox.ob hb, h.env.ob hb, h.ml.ob hb, h.below.trans (hb.mono h.below.size)⟩
theorem PuK.drew (h : PuK E B w t x W) : PuK E B w t x W.drew := h.later (Below.refl _ _).drew
theorem PuK.alloc (h : PuK E B w t x W) (o : Obj) : PuK E B w t x (W.alloc o) := h.later ((Below.refl _ _).alloc (Nat.le_refl _) o)
/-- The result's block, written over. -/
theorem PuK.done (h : PuK E B w t x W) (c0 c1 c2 c3 : Value) : Below w.heap.size w ((((W.setCell ⟨w.heap.size + 2, 0, none⟩ c0).setCell ⟨w.heap.size + 2, 1, none⟩ c1).setCell ⟨w.heap.size + 2, 2, none⟩ c2).setCell ⟨w.heap.size + 2, 3, none⟩ c3) ∧
    Blk ((((W.setCell ⟨w.heap.size + 2, 0, none⟩ c0).setCell ⟨w.heap.size + 2, 1, none⟩ c1).setCell ⟨w.heap.size + 2, 2, none⟩ c2).setCell ⟨w.heap.size + 2, 3, none⟩ c3) (w.heap.size + 2) [c0, c1, c2, c3] 24 ∧ Fr (fun b => b = w.heap.size + 2) W ((((W.setCell ⟨w.heap.size + 2, 0, none⟩ c0).setCell ⟨w.heap.size + 2, 1, none⟩ c1).setCell ⟨w.heap.size + 2, 2, none⟩ c2).setCell ⟨w.heap.size + 2, 3, none⟩ c3) := by
  have hF := (Fr.refl (fun b => b = w.heap.size + 2) W).four (p := w.heap.size + 2) (.inl rfl) c0 c1 c2 c3
  exact ⟨h.below.trans (hF.below h.below.size (fun b e => by omega)), h.bz.four, hF⟩
end

set_option maxRecDepth 100000 in
set_option maxHeartbeats 8000000 in
theorem put_any (E : Nat → Addr) (B : Nat) (t x : Lt) (s : ByteArray) (w : World) (ht : t.Ok w) (hx : x.Ok w) (hE : Env trGs B w E) (hM : Ml w) (hs : s.size < 4294967281) :
    Calls Tryd.prog 33 #[nval t, .string s, nval x] w (MadeP E (putOf t.bare s x.bare) w) := by
  obtain ⟨a, cap, hv⟩ := ht.shape
  obtain ⟨xa, xc, hxv⟩ := hx.shape
  have hB0 := three_below w #[.string t.kind, .string t.data, .bool t.exec, .slice a t.kids.length cap] #[.string x.kind, .string x.data, .bool x.exec, .slice xa x.kids.length xc] #[.string ⟨#[]⟩, .string ⟨#[]⟩, .bool false, .slice none 0 0] 24
  have hWK := with_start t x none 0 [] w a xa cap xc hv hxv ht hx (Sl.empty w none 0 1 (by unfold maxLen; omega))
  have hK : PuK E B w t x (((w.alloc (.cells #[.string t.kind, .string t.data, .bool t.exec, .slice a t.kids.length cap] 24)).alloc (.cells #[.string x.kind, .string x.data, .bool x.exec, .slice xa x.kids.length xc] 24)).alloc (.cells #[.string ⟨#[]⟩, .string ⟨#[]⟩, .bool false, .slice none 0 0] 24)) :=
    ⟨hWK.bt, hWK.bx, hWK.bz, ht.ob hB0, hx.ob hB0, hE.ob hB0, hM.ob hB0, hB0⟩
  have hb0 : treeE t.bare = treeE t := treeE_map _ t
  have HBS := hidd hE.size
  by_cases h0 : treeE t = 0
  · have HN := hidd (names_ok E B t s _ hK.ot hK.env hK.ml hs h0)
    have HT0 := hidd h0
    have HT0b := hidd (hb0.trans h0)
    have HSZ := hidd (fun l (h : splitOf s = some l) => split_size h)
    obtain ⟨kx, dx, ex, vx, ksx⟩ := x
    obtain ⟨kd, da, ex', va, ks⟩ := t
    simp only [Tr.kind, Tr.data, Tr.exec, Tr.v, Tr.kids] at hK hxv hv HN
    subst hxv
    subst hv
    have HWT := hidd (fun W l v (h : PuK E B w (.mk kd da ex' (.slice a ks.length cap) ks) (.mk kx dx ex (.slice xa ksx.length xc) ksx) W) (hl : Sl W v (tcells l) l.length 1) (hsl : splitOf s = some l) => with_any l _ _ v W h.ot h.ox h0 hl (HSZ.out l hsl))
    unfold nval at HN HWT ⊢
    simp only [Tr.kind, Tr.data, Tr.exec, Tr.v] at HN HWT ⊢
    have x0 := hK.bt.cell (i := 0) rfl
    have x1 := hK.bt.cell (i := 1) rfl
    have x2 := hK.bt.cell (i := 2) rfl
    have x3 := hK.bt.cell (i := 3) rfl
    simp only [Tr.kind, Tr.data, Tr.exec, Tr.v] at x0 x1 x2 x3
    have HK := hidd hK
    clear hWK hE hM hB0 hb0 h0 ht hx hs hK
    go_enter Tryd.func33, Tryd.ntmps33
    go_wp2_with fail
    refine HN.out.mono ?_
    rintro e w2 ⟨hb2, hr⟩
    have hK2 := HK.out.later hb2
    clear x0 x1 x2 x3 HN HK
    rcases hr with ⟨l, v, hsp, rfl, hsl⟩ | ⟨hsp, rfl⟩
    · obtain ⟨la, lc, rfl, -⟩ := id hsl
      have HP := hidd hsp
      have HC := hidd (HWT.out _ l _ hK2 hsl hsp)
      have x0 := hK2.bt.cell (i := 0) rfl
      have x1 := hK2.bt.cell (i := 1) rfl
      have x2 := hK2.bt.cell (i := 2) rfl
      have x3 := hK2.bt.cell (i := 3) rfl
      have z0 := hK2.bx.cell (i := 0) rfl
      have z1 := hK2.bx.cell (i := 1) rfl
      have z2 := hK2.bx.cell (i := 2) rfl
      have z3 := hK2.bx.cell (i := 3) rfl
      simp only [Tr.kind, Tr.data, Tr.exec, Tr.v] at x0 x1 x2 x3 z0 z1 z2 z3
      clear hsp HWT hb2
      go_wp2_with fail
      refine HC.out.mono ?_
      intro e w3 hyy
      obtain ⟨ky, dy, ey, ya, yc, ksy, b5, he5, hy5, hi5, hb5, hm5⟩ := hyy.parts
      subst he5
      have hK3 := (hK2.later hb5).alloc (.cells #[.string ky, .string dy, .bool ey, .slice ya ksy.length yc] 24)
      have hn3 := Blk.new w3 [.string ky, .string dy, .bool ey, .slice ya ksy.length yc] 24
      have hy3 := hy5.out.alloc (.cells #[.string ky, .string dy, .bool ey, .slice ya ksy.length yc] 24)
      clear x0 x1 x2 x3 z0 z1 z2 z3 hK2 hsl hb5 hy5 HC
      have hnw : w3.heap.size < (w3.alloc (.cells #[.string ky, .string dy, .bool ey, .slice ya ksy.length yc] 24)).heap.size := by simp
      have HB0 : Hid ((Tr.mk kd da ex' (.slice a ks.length cap) ks : Lt).bare = (Tr.mk kd da ex' (.slice a ks.length cap) ks : Lt).bare) := hidd rfl
      cases b5
      · have hw : withT (Tr.mk kx dx ex (.slice xa ksx.length xc) ksx : Lt).bare l (Tr.mk kd da ex' (.slice a ks.length cap) ks : Lt).bare = none := by
          have := hm5.out
          cases hw : withT (Tr.mk kx dx ex (.slice xa ksx.length xc) ksx : Lt).bare l (Tr.mk kd da ex' (.slice a ks.length cap) ks : Lt).bare with
          | none => rfl
          | some Y => rw [hw] at this; cases this.1
        have HG2 := hidd (putOf_none HT0b.out HP.out hw)
        have HV : Hid (evc E 6 = .iface 178 (.pointer (some (E 0)))) := hidd rfl
        have hcE := hK3.env.cell 0 (by decide)
        unfold erv at hcE
        have hg6 : 0 < B := hK3.env.glt 0 (by decide)
        have hBs : B ≤ w.heap.size := HBS.out
        have hne : ¬ (0 = w.heap.size + 2) := by omega
        have hne2 : ¬ (w.heap.size + 2 = 0) := by omega
        have f0 := hK3.bz.frozen 0
        have f1 := hK3.bz.frozen 1
        have f2 := hK3.bz.frozen 2
        have f3 := hK3.bz.frozen 3
        have y0 := hK3.bz.cell (i := 0) rfl
        have y1 := hK3.bz.cell (i := 1) rfl
        have y2 := hK3.bz.cell (i := 2) rfl
        have y3 := hK3.bz.cell (i := 3) rfl
        obtain ⟨hBF, hBk, hFR⟩ := hK3.done (.string ⟨#[]⟩) (.string ⟨#[]⟩) (.bool false) (.slice none 0 0)
        have r0 := hBk.cell (i := 0) rfl
        have r1 := hBk.cell (i := 1) rfl
        have r2 := hBk.cell (i := 2) rfl
        have r3 := hBk.cell (i := 3) rfl
        clear hK3 hn3 hy3 hm5 hw hBk hFR hi5 hyy HB0
        go_upto_region 6 with fail
        generalize w3.alloc (.cells #[.string ky, .string dy, .bool ey, .slice ya ksy.length yc] 24) = w4 at *
        go_region
        all_goals
          go_wp2_with fail
          refine bodyPost_ret (v := .tuple #[.agg #[.string ⟨#[]⟩, .string ⟨#[]⟩, .bool false, .slice none 0 0], evc E 6]) ?_ rfl ?_
          · rw [results_cell_tmp rfl]
            rw [HV.out]
            go_simp
          · exact ⟨hBF.drew, .inl ⟨6, HG2.out, by decide, by decide, rfl⟩⟩
      · obtain ⟨Y, hw, hyb⟩ : ∃ Y, withT (Tr.mk kx dx ex (.slice xa ksx.length xc) ksx : Lt).bare l (Tr.mk kd da ex' (.slice a ks.length cap) ks : Lt).bare = some Y ∧ (Tr.mk ky dy ey (.slice ya ksy.length yc) ksy : Lt).bare = Y := by
          have := hm5.out
          cases hw : withT (Tr.mk kx dx ex (.slice xa ksx.length xc) ksx : Lt).bare l (Tr.mk kd da ex' (.slice a ks.length cap) ks : Lt).bare with
          | none => rw [hw] at this; cases this
          | some Y => rw [hw] at this; exact ⟨Y, rfl, this.2⟩
        have hye : treeE Y = treeE (Tr.mk ky dy ey (.slice ya ksy.length yc) ksy : Lt) := by rw [← hyb]; exact treeE_map _ _
        clear hm5 HB0 hi5 hyy
        go_upto_region 7 with fail
        generalize w3.alloc (.cells #[.string ky, .string dy, .bool ey, .slice ya ksy.length yc] 24) = w4 at *
        generalize w3.heap.size = N at *
        have n0 := hn3.cell (i := 0) rfl
        have n1 := hn3.cell (i := 1) rfl
        have n2 := hn3.cell (i := 2) rfl
        have n3 := hn3.cell (i := 3) rfl
        have HCK := hidd (check_tr E B (.mk ky dy ey (.slice ya ksy.length yc) ksy) w4 hy3 hK3.env)
        unfold nval at HCK
        simp only [Tr.kind, Tr.data, Tr.exec, Tr.v] at HCK
        by_cases hy0 : treeE (Tr.mk ky dy ey (.slice ya ksy.length yc) ksy : Lt) = 0
        · have HG2 := hidd (putOf_ok HT0b.out HP.out hw (hye.trans hy0))
          rw [hy0, evc_zero] at HCK
          have HY0 := hidd hy0
          have HYB := hidd hyb
          have HK3 := hidd hK3
          have HN3 := hidd hn3
          have HY3 := hidd hy3
          clear hw hye hyb hy0 hK3 hn3 hy3
          go_wp2_with fail
          refine HCK.out.mono ?_
          rintro e w5 ⟨rfl, hb5⟩
          have hK5 := HK3.out.later hb5
          have hn5 := HN3.out.below hb5 HN3.out.lt
          clear n0 n1 n2 n3 HCK
          have n0 := hn5.cell (i := 0) rfl
          have n1 := hn5.cell (i := 1) rfl
          have n2 := hn5.cell (i := 2) rfl
          have n3 := hn5.cell (i := 3) rfl
          have HCP := hidd (copy_any 300 (.mk ky dy ey (.slice ya ksy.length yc) ksy) w5 (by have := right_sz HY0.out; omega) (Nat.le_refl _) (HY3.out.ob hb5))
          unfold nval at HCP
          simp only [Tr.kind, Tr.data, Tr.exec, Tr.v] at HCP
          clear HY3 HN3 HK3 hn5
          go_wp2_with fail
          refine HCP.out.mono ?_
          rintro e w6 ⟨pa, pc, ksp, rfl, hbr, hpo, hpi, hb6⟩
          simp only [Tr.kind, Tr.data, Tr.exec] at hbr hpo hpi ⊢
          have hK6 := hK5.later hb6
          have f0 := hK6.bz.frozen 0
          have f1 := hK6.bz.frozen 1
          have f2 := hK6.bz.frozen 2
          have f3 := hK6.bz.frozen 3
          have y0 := hK6.bz.cell (i := 0) rfl
          have y1 := hK6.bz.cell (i := 1) rfl
          have y2 := hK6.bz.cell (i := 2) rfl
          have y3 := hK6.bz.cell (i := 3) rfl
          obtain ⟨hBF, hBk, hFR⟩ := hK6.done (.string ky) (.string dy) (.bool ey) (.slice pa ksp.length pc)
          have r0 := hBk.cell (i := 0) rfl
          have r1 := hBk.cell (i := 1) rfl
          have r2 := hBk.cell (i := 2) rfl
          have r3 := hBk.cell (i := 3) rfl
          have hz5 : w.heap.size + 2 < w5.heap.size := hK5.bz.lt
          have HPO := hidd (ok_fr hFR _ hpo (in_mono (fun b hb e => by omega) _ hpi))
          have HPI := hidd (in_mono (G := fun b => w.heap.size ≤ b ∧ b < ((((w6.setCell ⟨w.heap.size + 2, 0, none⟩ (.string ky)).setCell ⟨w.heap.size + 2, 1, none⟩ (.string dy)).setCell ⟨w.heap.size + 2, 2, none⟩ (.bool ey)).setCell ⟨w.heap.size + 2, 3, none⟩ (.slice pa ksp.length pc)).heap.size) (fun b (hb : w5.heap.size ≤ b ∧ b < w6.heap.size) => ⟨by omega, by have := hFR.size; omega⟩) _ hpi)
          have HBR := hidd (hbr.trans HYB.out)
          clear hbr hpo hpi hK5 hK6 hb5 hb6 hBk hFR HCP HYB
          go_wp2_with fail
          refine bodyPost_ret (v := .tuple #[.agg #[.string ky, .string dy, .bool ey, .slice pa ksp.length pc], .nilIface]) ?_ rfl ?_
          · rw [results_cell_tmp rfl]
            go_simp
          · exact ⟨hBF, .inr ⟨_, by rw [HBR.out]; exact HG2.out, rfl, HPO.out, HPI.out⟩⟩
        · have HG2 := hidd (putOf_bad HT0b.out HP.out hw (by rw [hye]; exact hy0))
          rw [hye] at HG2
          have hbd : treeE (Tr.mk ky dy ey (.slice ya ksy.length yc) ksy : Lt) ≤ 10 := scan_bd _ 0
          obtain ⟨c, hc⟩ : ∃ c, treeE (Tr.mk ky dy ey (.slice ya ksy.length yc) ksy : Lt) = c := ⟨_, rfl⟩
          rw [hc] at HCK HG2 hbd hy0
          have HV := hidd (evc_ne (E := E) hy0)
          rw [HV.out] at HCK
          have HC0 := hidd hy0
          have HK3 := hidd hK3
          clear hw hye hyb hy0 hK3 hn3 hy3 hc
          go_wp2_with fail
          refine HCK.out.mono ?_
          rintro e w5 ⟨rfl, hb5⟩
          have hK5 := HK3.out.later hb5
          have f0 := hK5.bz.frozen 0
          have f1 := hK5.bz.frozen 1
          have f2 := hK5.bz.frozen 2
          have f3 := hK5.bz.frozen 3
          have y0 := hK5.bz.cell (i := 0) rfl
          have y1 := hK5.bz.cell (i := 1) rfl
          have y2 := hK5.bz.cell (i := 2) rfl
          have y3 := hK5.bz.cell (i := 3) rfl
          obtain ⟨hBF, hBk, hFR⟩ := hK5.done (.string ⟨#[]⟩) (.string ⟨#[]⟩) (.bool false) (.slice none 0 0)
          have r0 := hBk.cell (i := 0) rfl
          have r1 := hBk.cell (i := 1) rfl
          have r2 := hBk.cell (i := 2) rfl
          have r3 := hBk.cell (i := 3) rfl
          clear n0 n1 n2 n3 HCK hK5 hb5 hBk hFR HK3
          go_wp2_with fail
          refine bodyPost_ret (v := .tuple #[.agg #[.string ⟨#[]⟩, .string ⟨#[]⟩, .bool false, .slice none 0 0], evc E c]) ?_ rfl ?_
          · rw [results_cell_tmp rfl]
            rw [HV.out]
            go_simp
          · exact ⟨hBF, .inl ⟨c, HG2.out, HC0.out, hbd, rfl⟩⟩
    · have HG2 := hidd (putOf_split (x := (Tr.mk kx dx ex (.slice xa ksx.length xc) ksx : Lt).bare) HT0b.out hsp)
      have HV : Hid (evc E 5 = .iface 178 (.pointer (some (E 8)))) := hidd rfl
      rw [HV.out]
      have f0 := hK2.bz.frozen 0
      have f1 := hK2.bz.frozen 1
      have f2 := hK2.bz.frozen 2
      have f3 := hK2.bz.frozen 3
      have y0 := hK2.bz.cell (i := 0) rfl
      have y1 := hK2.bz.cell (i := 1) rfl
      have y2 := hK2.bz.cell (i := 2) rfl
      have y3 := hK2.bz.cell (i := 3) rfl
      obtain ⟨hBF, hBk, hFR⟩ := hK2.done (.string ⟨#[]⟩) (.string ⟨#[]⟩) (.bool false) (.slice none 0 0)
      have r0 := hBk.cell (i := 0) rfl
      have r1 := hBk.cell (i := 1) rfl
      have r2 := hBk.cell (i := 2) rfl
      have r3 := hBk.cell (i := 3) rfl
      clear hK2 hb2 hsp HWT hBk hFR
      go_wp2_with fail
      refine bodyPost_ret (v := .tuple #[.agg #[.string ⟨#[]⟩, .string ⟨#[]⟩, .bool false, .slice none 0 0], evc E 5]) ?_ rfl ?_
      · rw [results_cell_tmp rfl]
        rw [HV.out]
        go_simp
      · exact ⟨hBF, .inl ⟨5, HG2.out, by decide, by decide, rfl⟩⟩
  · have HN := names_bad E B t s _ hK.ot hK.env h0
    have HG2 := hidd (putOf_err (x := x.bare) (s := s) (by rw [hb0]; exact h0))
    rw [hb0] at HG2
    have hbd : treeE t ≤ 10 := scan_bd _ 0
    obtain ⟨kd, da, ex', va, ks⟩ := t
    obtain ⟨kx, dx, ex, vx, ksx⟩ := x
    simp only [Tr.kind, Tr.data, Tr.exec, Tr.v, Tr.kids] at hK hxv hv HN
    subst hxv
    subst hv
    obtain ⟨c, hc⟩ : ∃ c, treeE (Tr.mk kd da ex' (.slice a ks.length cap) ks : Lt) = c := ⟨_, rfl⟩
    rw [hc] at HN HG2 hbd h0
    have HV := hidd (evc_ne (E := E) h0)
    rw [HV.out] at HN
    have HNH := hidd HN
    have HC0 := hidd h0
    unfold nval at HNH ⊢
    simp only [Tr.kind, Tr.data, Tr.exec, Tr.v] at HNH ⊢
    have x0 := hK.bt.cell (i := 0) rfl
    have x1 := hK.bt.cell (i := 1) rfl
    have x2 := hK.bt.cell (i := 2) rfl
    have x3 := hK.bt.cell (i := 3) rfl
    simp only [Tr.kind, Tr.data, Tr.exec, Tr.v] at x0 x1 x2 x3
    have HK := hidd hK
    clear hWK hE hM hB0 hb0 h0 ht hx hs hK HN hc
    go_enter Tryd.func33, Tryd.ntmps33
    go_wp2_with fail
    refine HNH.out.mono ?_
    rintro e w2 ⟨rfl, hb2⟩
    have hK2 := HK.out.later hb2
    have f0 := hK2.bz.frozen 0
    have f1 := hK2.bz.frozen 1
    have f2 := hK2.bz.frozen 2
    have f3 := hK2.bz.frozen 3
    have y0 := hK2.bz.cell (i := 0) rfl
    have y1 := hK2.bz.cell (i := 1) rfl
    have y2 := hK2.bz.cell (i := 2) rfl
    have y3 := hK2.bz.cell (i := 3) rfl
    obtain ⟨hBF, hBk, hFR⟩ := hK2.done (.string ⟨#[]⟩) (.string ⟨#[]⟩) (.bool false) (.slice none 0 0)
    have r0 := hBk.cell (i := 0) rfl
    have r1 := hBk.cell (i := 1) rfl
    have r2 := hBk.cell (i := 2) rfl
    have r3 := hBk.cell (i := 3) rfl
    clear hK2 hb2 hBk hFR HNH HK x0 x1 x2 x3
    go_wp2_with fail
    refine bodyPost_ret (v := .tuple #[.agg #[.string ⟨#[]⟩, .string ⟨#[]⟩, .bool false, .slice none 0 0], evc E c]) ?_ rfl ?_
    · rw [results_cell_tmp rfl]
      rw [HV.out]
      go_simp
    · exact ⟨hBF, .inl ⟨c, HG2.out, HC0.out, hbd, rfl⟩⟩
end Go.Proofs.YtoaedkinlnkkhaaDoor

namespace Go.Proofs.YtoaedkinlnkkhaaDoor
open Go.RowKit Go.Shelf

theorem dropOf_err {α : Type} {t : Tr α} {s : ByteArray} (h : treeE t ≠ 0) : dropOf t s = .error (treeE t) := by unfold dropOf; rw [if_neg h]
theorem dropOf_split {α : Type} {t : Tr α} {s : ByteArray} (h : treeE t = 0) (hs : splitOf s = none) : dropOf t s = .error 5 := by unfold dropOf; rw [if_pos h, hs]
theorem dropOf_root {α : Type} {t : Tr α} {s : ByteArray} (h : treeE t = 0) (hs : splitOf s = some []) : dropOf t s = .error 3 := by unfold dropOf; rw [if_pos h, hs]; simp
theorem dropOf_none {α : Type} {t : Tr α} {s : ByteArray} {l : List ByteArray} (h : treeE t = 0) (hs : splitOf s = some l) (hl : l ≠ []) (ha : atT t l = none) : dropOf t s = .error 6 := by unfold dropOf; rw [if_pos h, hs]; simp only [if_neg hl, ha]
theorem dropOf_ok {α : Type} {t x : Tr α} {s : ByteArray} {l : List ByteArray} (h : treeE t = 0) (hs : splitOf s = some l) (hl : l ≠ []) (ha : atT t l = some x) : dropOf t s = .ok (withoutT l t) := by unfold dropOf; rw [if_pos h, hs]; simp only [if_neg hl, ha]

/-- What stands while path.Drop goes. -/
structure DpK (E : Nat → Addr) (B : Nat) (w : World) (t : Lt) (W : World) : Prop where
  bt : Blk W w.heap.size (ncells t) 24
  bz : Blk W (w.heap.size + 1) [.string ⟨#[]⟩, .string ⟨#[]⟩, .bool false, .slice none 0 0] 24
  ot : t.Ok W
  env : Env trGs B W E
  ml : Ml W
  below : Below w.heap.size w W
section
variable {E : Nat → Addr} {B : Nat} {w : World} {t : Lt} {W W' : World}
theorem DpK.later (h : DpK E B w t W) (hb : Below W.heap.size W W') : DpK E B w t W' :=
  ⟨h.bt.below hb h.bt.lt, h.bz.below hb h.bz.lt, h.ot.ob hb, h.env.ob hb, h.ml.ob hb, h.below.trans (hb.mono h.below.size)⟩
theorem DpK.alloc (h : DpK E B w t W) (o : Obj) : DpK E B w t (W.alloc o) := h.later ((Below.refl _ _).alloc (Nat.le_refl _) o)
theorem DpK.done (h : DpK E B w t W) (c0 c1 c2 c3 : Value) : Below w.heap.size w ((((W.setCell ⟨w.heap.size + 1, 0, none⟩ c0).setCell ⟨w.heap.size + 1, 1, none⟩ c1).setCell ⟨w.heap.size + 1, 2, none⟩ c2).setCell ⟨w.heap.size + 1, 3, none⟩ c3) ∧
    Blk ((((W.setCell ⟨w.heap.size + 1, 0, none⟩ c0).setCell ⟨w.heap.size + 1, 1, none⟩ c1).setCell ⟨w.heap.size + 1, 2, none⟩ c2).setCell ⟨w.heap.size + 1, 3, none⟩ c3) (w.heap.size + 1) [c0, c1, c2, c3] 24 ∧ Fr (fun b => b = w.heap.size + 1) W ((((W.setCell ⟨w.heap.size + 1, 0, none⟩ c0).setCell ⟨w.heap.size + 1, 1, none⟩ c1).setCell ⟨w.heap.size + 1, 2, none⟩ c2).setCell ⟨w.heap.size + 1, 3, none⟩ c3) := by
  have hF := (Fr.refl (fun b => b = w.heap.size + 1) W).four (p := w.heap.size + 1) (.inl rfl) c0 c1 c2 c3
  exact ⟨h.below.trans (hF.below h.below.size (fun b e => by omega)), h.bz.four, hF⟩
end

set_option maxRecDepth 100000 in
set_option maxHeartbeats 8000000 in
theorem drop_any (E : Nat → Addr) (B : Nat) (t : Lt) (s : ByteArray) (w : World) (ht : t.Ok w) (hE : Env trGs B w E) (hM : Ml w) (hs : s.size < 4294967281) :
    Calls Tryd.prog 34 #[nval t, .string s] w (MadeP E (dropOf t.bare s) w) := by
  obtain ⟨a, cap, hv⟩ := ht.shape
  have hB0 := two_below w #[.string t.kind, .string t.data, .bool t.exec, .slice a t.kids.length cap] #[.string ⟨#[]⟩, .string ⟨#[]⟩, .bool false, .slice none 0 0] 24
  have hWK := out_start t none 0 [] w a cap hv ht (Sl.empty w none 0 1 (by unfold maxLen; omega))
  have hK : DpK E B w t ((w.alloc (.cells #[.string t.kind, .string t.data, .bool t.exec, .slice a t.kids.length cap] 24)).alloc (.cells #[.string ⟨#[]⟩, .string ⟨#[]⟩, .bool false, .slice none 0 0] 24)) :=
    ⟨hWK.bt, hWK.bz, ht.ob hB0, hE.ob hB0, hM.ob hB0, hB0⟩
  have hb0 : treeE t.bare = treeE t := treeE_map _ t
  have hBs : B ≤ w.heap.size := hE.size
  have hg6 : 0 < B := hE.glt 0 (by decide)
  have hg3 : 4 < B := hE.glt 4 (by decide)
  have hne : ¬ (0 = w.heap.size + 1) := by omega
  have hne2 : ¬ (w.heap.size + 1 = 0) := by omega
  have hne3 : ¬ (4 = w.heap.size + 1) := by omega
  have hne4 : ¬ (w.heap.size + 1 = 4) := by omega
  clear hBs hg6 hg3
  by_cases h0 : treeE t = 0
  · have HN := hidd (names_ok E B t s _ hK.ot hK.env hK.ml hs h0)
    have HT0 := hidd h0
    have HT0b := hidd (hb0.trans h0)
    obtain ⟨kd, da, ex', va, ks⟩ := t
    simp only [Tr.kind, Tr.data, Tr.exec, Tr.v, Tr.kids] at hK hv HN
    subst hv
    have HAT := hidd (fun W l v (h : DpK E B w (.mk kd da ex' (.slice a ks.length cap) ks) W) (hl : Sl W v (tcells l) l.length 1) => at_any _ v l W h.ot h0 hl)
    have HWO := hidd (fun W l v z (h : DpK E B w (.mk kd da ex' (.slice a ks.length cap) ks) W) (hl : Sl W v (tcells l) l.length 1) (hn : l ≠ []) (ha : atT (Tr.mk kd da ex' (.slice a ks.length cap) ks : Lt) l = some z) => without_any l _ z v W hn ha h.ot h0 hl)
    unfold nval at HN HAT HWO ⊢
    simp only [Tr.kind, Tr.data, Tr.exec, Tr.v] at HN HAT HWO ⊢
    have x0 := hK.bt.cell (i := 0) rfl
    have x1 := hK.bt.cell (i := 1) rfl
    have x2 := hK.bt.cell (i := 2) rfl
    have x3 := hK.bt.cell (i := 3) rfl
    simp only [Tr.kind, Tr.data, Tr.exec, Tr.v] at x0 x1 x2 x3
    have HK := hidd hK
    clear hWK hE hM hB0 hb0 h0 ht hs hK
    go_enter Tryd.func34, Tryd.ntmps34
    go_wp2_with fail
    refine HN.out.mono ?_
    rintro e w2 ⟨hb2, hr⟩
    have hK2 := HK.out.later hb2
    clear x0 x1 x2 x3 HN HK
    rcases hr with ⟨l, v, hsp, rfl, hsl⟩ | ⟨hsp, rfl⟩
    · obtain ⟨la, lc, rfl, -⟩ := id hsl
      have HP := hidd hsp
      by_cases hl0 : l = []
      · subst hl0
        have HG2 := hidd (dropOf_root HT0b.out hsp)
        have HV : Hid (evc E 3 = .iface 178 (.pointer (some (E 4)))) := hidd rfl
        have hcE := hK2.env.cell 4 (by decide)
        unfold erv at hcE
        have f0 := hK2.bz.frozen 0
        have f1 := hK2.bz.frozen 1
        have f2 := hK2.bz.frozen 2
        have f3 := hK2.bz.frozen 3
        have y0 := hK2.bz.cell (i := 0) rfl
        have y1 := hK2.bz.cell (i := 1) rfl
        have y2 := hK2.bz.cell (i := 2) rfl
        have y3 := hK2.bz.cell (i := 3) rfl
        obtain ⟨hBF, hBk, hFR⟩ := hK2.done (.string ⟨#[]⟩) (.string ⟨#[]⟩) (.bool false) (.slice none 0 0)
        have r0 := hBk.cell (i := 0) rfl
        have r1 := hBk.cell (i := 1) rfl
        have r2 := hBk.cell (i := 2) rfl
        have r3 := hBk.cell (i := 3) rfl
        clear hK2 hb2 hsp HAT HWO hBk hFR hsl
        go_wp2_with fail
        go_region
        all_goals
          go_wp2_with fail
          refine bodyPost_ret (v := .tuple #[.agg #[.string ⟨#[]⟩, .string ⟨#[]⟩, .bool false, .slice none 0 0], evc E 3]) ?_ rfl ?_
          · rw [results_cell_tmp rfl]
            rw [HV.out]
            go_simp
          · exact ⟨hBF.drew, .inl ⟨3, HG2.out, by decide, by decide, rfl⟩⟩
      · have hlp : 0 < l.length := List.length_pos_iff.2 hl0
        have hlz : ((l.length : Int) == 0) = false := by simp; omega
        have HC := hidd (HAT.out _ l _ hK2 hsl)
        have HL0 := hidd hl0
        have HSL := hidd hsl
        have x0 := hK2.bt.cell (i := 0) rfl
        have x1 := hK2.bt.cell (i := 1) rfl
        have x2 := hK2.bt.cell (i := 2) rfl
        have x3 := hK2.bt.cell (i := 3) rfl
        simp only [Tr.kind, Tr.data, Tr.exec, Tr.v] at x0 x1 x2 x3
        clear hsp HAT hb2 hl0 hsl hlp
        go_wp2_with fail
        refine HC.out.mono ?_
        rintro e w3 ⟨hb3, hr3⟩
        have hK3 := hK2.later hb3
        have hsl3 := HSL.out.ob hb3 (Nat.le_refl _)
        clear x0 x1 x2 x3 hK2 HC HSL hb3
        rcases hr3 with ⟨x, hx, rfl⟩ | ⟨hx, rfl⟩
        · have hb1 := atT_map (fun _ => ()) l (Tr.mk kd da ex' (.slice a ks.length cap) ks : Lt)
          rw [hx] at hb1
          have HG2 := hidd (dropOf_ok HT0b.out HP.out HL0.out hb1)
          have HXO := atT_ok hK3.ot hx
          obtain ⟨xa, xc, hxv⟩ := HXO.shape
          obtain ⟨kx, dx, ex, vx, ksx⟩ := x
          simp only [Tr.v, Tr.kids] at hxv
          subst hxv
          rw [show nval (Tr.mk kx dx ex (.slice xa ksx.length xc) ksx : Lt) = .agg #[.string kx, .string dx, .bool ex, .slice xa ksx.length xc] from rfl]
          have hK4 := hK3.alloc (.cells #[.string kx, .string dx, .bool ex, .slice xa ksx.length xc] 24)
          have HC := hidd (HWO.out _ l _ _ hK4 (hsl3.ob ((Below.refl _ _).alloc (Nat.le_refl _) _) (Nat.le_refl _)) HL0.out hx)
          have x0 := hK4.bt.cell (i := 0) rfl
          have x1 := hK4.bt.cell (i := 1) rfl
          have x2 := hK4.bt.cell (i := 2) rfl
          have x3 := hK4.bt.cell (i := 3) rfl
          simp only [Tr.kind, Tr.data, Tr.exec, Tr.v] at x0 x1 x2 x3
          clear hb1 hx HXO HWO hK3 hsl3
          go_wp2_with fail
          refine HC.out.mono ?_
          rintro e w5 ⟨ky, dy, ey, ya, yc, ksy, rfl, hy5, hi5, hb5, hm5⟩
          have hK5 := hK4.later hb5
          have hyr : treeE (Tr.mk ky dy ey (.slice ya ksy.length yc) ksy : Lt) = 0 := by
            have h1 : treeE (Tr.mk ky dy ey (.slice ya ksy.length yc) ksy : Lt).bare = treeE (Tr.mk ky dy ey (.slice ya ksy.length yc) ksy : Lt) := treeE_map _ _
            rw [← h1, hm5.out]; exact without_right HT0b.out
          have HCP := hidd (copy_any 300 (.mk ky dy ey (.slice ya ksy.length yc) ksy) w5 (by have := right_sz hyr; omega) (Nat.le_refl _) hy5.out)
          unfold nval at HCP
          simp only [Tr.kind, Tr.data, Tr.exec, Tr.v] at HCP
          clear x0 x1 x2 x3 hK4 hb5 hyr hi5 hy5 HC
          go_wp2_with fail
          refine HCP.out.mono ?_
          rintro e w6 ⟨pa, pc, ksp, rfl, hbr, hpo, hpi, hb6⟩
          simp only [Tr.kind, Tr.data, Tr.exec] at hbr hpo hpi ⊢
          have hK6 := hK5.later hb6
          have f0 := hK6.bz.frozen 0
          have f1 := hK6.bz.frozen 1
          have f2 := hK6.bz.frozen 2
          have f3 := hK6.bz.frozen 3
          have y0 := hK6.bz.cell (i := 0) rfl
          have y1 := hK6.bz.cell (i := 1) rfl
          have y2 := hK6.bz.cell (i := 2) rfl
          have y3 := hK6.bz.cell (i := 3) rfl
          obtain ⟨hBF, hBk, hFR⟩ := hK6.done (.string ky) (.string dy) (.bool ey) (.slice pa ksp.length pc)
          have r0 := hBk.cell (i := 0) rfl
          have r1 := hBk.cell (i := 1) rfl
          have r2 := hBk.cell (i := 2) rfl
          have r3 := hBk.cell (i := 3) rfl
          have hz5 : w.heap.size + 1 < w5.heap.size := hK5.bz.lt
          have HPO := hidd (ok_fr hFR _ hpo (in_mono (fun b hb e => by omega) _ hpi))
          have HPI := hidd (in_mono (G := fun b => w.heap.size ≤ b ∧ b < ((((w6.setCell ⟨w.heap.size + 1, 0, none⟩ (.string ky)).setCell ⟨w.heap.size + 1, 1, none⟩ (.string dy)).setCell ⟨w.heap.size + 1, 2, none⟩ (.bool ey)).setCell ⟨w.heap.size + 1, 3, none⟩ (.slice pa ksp.length pc)).heap.size) (fun b (hb : w5.heap.size ≤ b ∧ b < w6.heap.size) => ⟨by omega, by have := hFR.size; omega⟩) _ hpi)
          have HBR := hidd (hbr.trans hm5.out)
          clear hbr hpo hpi hK5 hK6 hb6 hBk hFR HCP hm5
          go_wp2_with fail
          refine bodyPost_ret (v := .tuple #[.agg #[.string ky, .string dy, .bool ey, .slice pa ksp.length pc], .nilIface]) ?_ rfl ?_
          · rw [results_cell_tmp rfl]
            go_simp
          · exact ⟨hBF, .inr ⟨_, by rw [HBR.out]; exact HG2.out, rfl, HPO.out, HPI.out⟩⟩
        · have hb1 := atT_map (fun _ => ()) l (Tr.mk kd da ex' (.slice a ks.length cap) ks : Lt)
          rw [hx] at hb1
          have HG2 := hidd (dropOf_none HT0b.out HP.out HL0.out hb1)
          have HV : Hid (evc E 6 = .iface 178 (.pointer (some (E 0)))) := hidd rfl
          unfold nodeZ
          have hK4 := hK3.alloc (.cells #[.string ⟨#[]⟩, .string ⟨#[]⟩, .bool false, .slice none 0 0] 24)
          have hcE := hK4.env.cell 0 (by decide)
          unfold erv at hcE
          have f0 := hK4.bz.frozen 0
          have f1 := hK4.bz.frozen 1
          have f2 := hK4.bz.frozen 2
          have f3 := hK4.bz.frozen 3
          have y0 := hK4.bz.cell (i := 0) rfl
          have y1 := hK4.bz.cell (i := 1) rfl
          have y2 := hK4.bz.cell (i := 2) rfl
          have y3 := hK4.bz.cell (i := 3) rfl
          obtain ⟨hBF, hBk, hFR⟩ := hK4.done (.string ⟨#[]⟩) (.string ⟨#[]⟩) (.bool false) (.slice none 0 0)
          have r0 := hBk.cell (i := 0) rfl
          have r1 := hBk.cell (i := 1) rfl
          have r2 := hBk.cell (i := 2) rfl
          have r3 := hBk.cell (i := 3) rfl
          clear hK3 hK4 hb1 hx HWO hBk hFR hsl3
          go_wp2_with fail
          go_region
          all_goals
            go_wp2_with fail
            refine bodyPost_ret (v := .tuple #[.agg #[.string ⟨#[]⟩, .string ⟨#[]⟩, .bool false, .slice none 0 0], evc E 6]) ?_ rfl ?_
            · rw [results_cell_tmp rfl]
              rw [HV.out]
              go_simp
            · exact ⟨hBF.drew, .inl ⟨6, HG2.out, by decide, by decide, rfl⟩⟩
    · have HG2 := hidd (dropOf_split HT0b.out hsp)
      have HV : Hid (evc E 5 = .iface 178 (.pointer (some (E 8)))) := hidd rfl
      rw [HV.out]
      have f0 := hK2.bz.frozen 0
      have f1 := hK2.bz.frozen 1
      have f2 := hK2.bz.frozen 2
      have f3 := hK2.bz.frozen 3
      have y0 := hK2.bz.cell (i := 0) rfl
      have y1 := hK2.bz.cell (i := 1) rfl
      have y2 := hK2.bz.cell (i := 2) rfl
      have y3 := hK2.bz.cell (i := 3) rfl
      obtain ⟨hBF, hBk, hFR⟩ := hK2.done (.string ⟨#[]⟩) (.string ⟨#[]⟩) (.bool false) (.slice none 0 0)
      have r0 := hBk.cell (i := 0) rfl
      have r1 := hBk.cell (i := 1) rfl
      have r2 := hBk.cell (i := 2) rfl
      have r3 := hBk.cell (i := 3) rfl
      clear hK2 hb2 hsp HAT HWO hBk hFR
      go_wp2_with fail
      refine bodyPost_ret (v := .tuple #[.agg #[.string ⟨#[]⟩, .string ⟨#[]⟩, .bool false, .slice none 0 0], evc E 5]) ?_ rfl ?_
      · rw [results_cell_tmp rfl]
        rw [HV.out]
        go_simp
      · exact ⟨hBF, .inl ⟨5, HG2.out, by decide, by decide, rfl⟩⟩
  · have HN := names_bad E B t s _ hK.ot hK.env h0
    have HG2 := hidd (dropOf_err (s := s) (by rw [hb0]; exact h0))
    rw [hb0] at HG2
    have hbd : treeE t ≤ 10 := scan_bd _ 0
    obtain ⟨kd, da, ex', va, ks⟩ := t
    simp only [Tr.kind, Tr.data, Tr.exec, Tr.v, Tr.kids] at hK hv HN
    subst hv
    obtain ⟨c, hc⟩ : ∃ c, treeE (Tr.mk kd da ex' (.slice a ks.length cap) ks : Lt) = c := ⟨_, rfl⟩
    rw [hc] at HN HG2 hbd h0
    have HV := hidd (evc_ne (E := E) h0)
    rw [HV.out] at HN
    have HNH := hidd HN
    have HC0 := hidd h0
    unfold nval at HNH ⊢
    simp only [Tr.kind, Tr.data, Tr.exec, Tr.v] at HNH ⊢
    have x0 := hK.bt.cell (i := 0) rfl
    have x1 := hK.bt.cell (i := 1) rfl
    have x2 := hK.bt.cell (i := 2) rfl
    have x3 := hK.bt.cell (i := 3) rfl
    simp only [Tr.kind, Tr.data, Tr.exec, Tr.v] at x0 x1 x2 x3
    have HK := hidd hK
    clear hWK hE hM hB0 hb0 h0 ht hs hK HN hc
    go_enter Tryd.func34, Tryd.ntmps34
    go_wp2_with fail
    refine HNH.out.mono ?_
    rintro e w2 ⟨rfl, hb2⟩
    have hK2 := HK.out.later hb2
    have f0 := hK2.bz.frozen 0
    have f1 := hK2.bz.frozen 1
    have f2 := hK2.bz.frozen 2
    have f3 := hK2.bz.frozen 3
    have y0 := hK2.bz.cell (i := 0) rfl
    have y1 := hK2.bz.cell (i := 1) rfl
    have y2 := hK2.bz.cell (i := 2) rfl
    have y3 := hK2.bz.cell (i := 3) rfl
    obtain ⟨hBF, hBk, hFR⟩ := hK2.done (.string ⟨#[]⟩) (.string ⟨#[]⟩) (.bool false) (.slice none 0 0)
    have r0 := hBk.cell (i := 0) rfl
    have r1 := hBk.cell (i := 1) rfl
    have r2 := hBk.cell (i := 2) rfl
    have r3 := hBk.cell (i := 3) rfl
    clear hK2 hb2 hBk hFR HNH HK x0 x1 x2 x3
    go_wp2_with fail
    refine bodyPost_ret (v := .tuple #[.agg #[.string ⟨#[]⟩, .string ⟨#[]⟩, .bool false, .slice none 0 0], evc E c]) ?_ rfl ?_
    · rw [results_cell_tmp rfl]
      rw [HV.out]
      go_simp
    · exact ⟨hBF, .inl ⟨c, HG2.out, HC0.out, hbd, rfl⟩⟩
end Go.Proofs.YtoaedkinlnkkhaaDoor

namespace Go.Proofs.YtoaedkinlnkkhaaDoor
open Go.RowKit Go.Shelf
/-- No tree. -/
def LtZ : Lt := .mk ⟨#[]⟩ ⟨#[]⟩ false (.slice none 0 0) []
theorem ltZ_ok (w : World) : LtZ.Ok w := Tr.Ok.mk' (Sl.nil _ _) (fun x hx => by cases hx) (fun x hx => by cases hx)
theorem ltZ_in (F : Nat → Prop) : LtZ.In F := by unfold LtZ; rw [Tr.In]; exact ⟨fun h => absurd rfl h, by rw [InS]; trivial⟩

/-- A tree and an error's number of what was asked. -/
def RV (R : Except Nat Nd) (Y : Nd) (c : Nat) : Prop := (R = .error c ∧ c ≠ 0 ∧ Y = LtZ.bare) ∨ (R = .ok Y ∧ c = 0)
theorem RV.uniq {R : Except Nat Nd} {Y Z : Nd} {c d : Nat} (h : RV R Y c) (k : RV R Z d) : Y = Z ∧ c = d := by
  rcases h with ⟨h1, h2, h3⟩ | ⟨h1, h2⟩
  · rcases k with ⟨k1, -, k3⟩ | ⟨k1, -⟩
    · rw [h1] at k1; exact ⟨h3.trans k3.symm, Except.error.inj k1⟩
    · rw [h1] at k1; cases k1
  · rcases k with ⟨k1, -⟩ | ⟨k1, k2⟩
    · rw [h1] at k1; cases k1
    · rw [h1] at k1; exact ⟨Except.ok.inj k1, h2.trans k2.symm⟩
/-- A tree that a call gives, its kids' slice in sight, with an error's number. -/
def TwoP (ev : Nat → Value) (R : Except Nat Nd) (P : Lt → Prop) (w : World) (e : Ending) (w' : World) : Prop :=
  ∃ (ky dy : ByteArray) (ey : Bool) (ya : Option Addr) (yc : Nat) (ksy : List (ByteArray × Lt)) (c : Nat), e = .returned (.tuple #[.agg #[.string ky, .string dy, .bool ey, .slice ya ksy.length yc], ev c]) ∧ Below w.heap.size w w' ∧ c ≤ 10 ∧
    Hid ((Tr.mk ky dy ey (.slice ya ksy.length yc) ksy : Lt).Ok w') ∧ Hid (P (Tr.mk ky dy ey (.slice ya ksy.length yc) ksy)) ∧ Hid (RV R (Tr.mk ky dy ey (.slice ya ksy.length yc) ksy : Lt).bare c)
theorem two_zero {ev : Nat → Value} {R : Except Nat Nd} {P : Lt → Prop} {w w' : World} {c : Nat} (h : R = .error c) (h0 : c ≠ 0) (h1 : c ≤ 10) (hb : Below w.heap.size w w') (hp : P LtZ) : TwoP ev R P w (.returned (.tuple #[nodeZ, ev c])) w' :=
  ⟨⟨#[]⟩, ⟨#[]⟩, false, none, 0, [], c, rfl, hb, h1, ltZ_ok w', hp, .inl ⟨h, h0, rfl⟩⟩
theorem two_tree {ev : Nat → Value} {R : Except Nat Nd} {P : Lt → Prop} {w w' : World} {y : Lt} (h : R = .ok y.bare) (ho : y.Ok w') (hb : Below w.heap.size w w') (hp : P y) : TwoP ev R P w (.returned (.tuple #[nval y, ev 0])) w' := by
  obtain ⟨ya, yc, hyv⟩ := ho.shape
  obtain ⟨ky, dy, ey, vy, ksy⟩ := y
  simp only [Tr.v, Tr.kids] at hyv
  subst hyv
  exact ⟨ky, dy, ey, ya, yc, ksy, 0, rfl, hb, Nat.zero_le _, ho, hp, .inr ⟨h, rfl⟩⟩
theorem MadeP.two {E : Nat → Addr} {R : Except Nat Nd} {w w' : World} {e : Ending} (h : MadeP E R w e w') : TwoP (evc E) R (fun y => y.In (fun b => w.heap.size ≤ b)) w e w' := by
  obtain ⟨hb, ⟨c, hc, hc0, h1, rfl⟩ | ⟨y, hy, rfl, ho, hi⟩⟩ := h
  · exact two_zero hc hc0 h1 hb (ltZ_in _)
  · exact two_tree hy ho hb (in_mono (fun b hb => hb.1) y hi)
theorem GetP.two {E : Nat → Addr} {t : Lt} {s : ByteArray} {w w' : World} {e : Ending} (h : GetP E t s w e w') : TwoP (evc E) (getOf t.bare s) (fun _ => True) w e w' := by
  obtain ⟨hb, ⟨c, hc, hc0, h1, rfl⟩ | ⟨x, y, hx, -, rfl, hbr, ho, -⟩⟩ := h
  · exact two_zero (by unfold Tr.bare; rw [getOf_map, hc]; rfl) hc0 h1 hb trivial
  · exact two_tree (by rw [hbr]; unfold Tr.bare; rw [getOf_map, hx]; rfl) ho hb trivial
end Go.Proofs.YtoaedkinlnkkhaaDoor
