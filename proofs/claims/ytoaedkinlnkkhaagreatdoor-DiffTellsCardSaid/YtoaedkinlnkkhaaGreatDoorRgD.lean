/- The contracts of the reference's PutOf and DropOf. Condition: the trees are there, the text is short. · The contracts of the reference's joined and FollowOf. Condition: the tree is there, the text is short. · What PathActs compares, in one shape; the contract of path.Follow whole. Condition: as stated. -/
import Derived.Test.YtoaedkinlnkkhaaGreatDoorRgB
import Derived.Test.YtoaedkinlnkkhaaGreatDoorRgA
import Derived.Test.YtoaedkinlnkkhaaGreatDoorPwQD
import Derived.Test.YtoaedkinlnkkhaaGreatDoorPaVW
import Derived.Test.YtoaedkinlnkkhaaGreatDoorPs
namespace Go.Proofs.YtoaedkinlnkkhaaGreatDoor
open Go.RowKit
/-- What a call of the reference gives that makes a tree, or an error's number. -/
def RpP (t x : Lt) (R : Except Nat Nd) (w : World) (e : Ending) (w' : World) : Prop :=
  Below w.heap.size w w' ∧ ((∃ c : Nat, R = .error c ∧ c ≠ 0 ∧ c ≤ 10 ∧ e = .returned (.tuple #[nodeZ, .int .i64 (c : Int)])) ∨ (∃ y : Lt, R = .ok y.bare ∧ e = .returned (.tuple #[nval y, .int .i64 0]) ∧ y.Ok w' ∧ ∀ F : Nat → Prop, t.In F → x.In F → y.In (fun b => F b ∨ w.heap.size ≤ b)))
set_option maxRecDepth 100000 in
set_option maxHeartbeats 40000000 in
theorem rput_any (t x : Lt) (s : ByteArray) (w : World) (ht : t.Ok w) (hx : x.Ok w) (hs : s.size ≤ 1000000) :
    Calls Tryz.prog 54 #[nval t, .string s, nval x] w (RpP t x (putOf t.bare s x.bare) w) := by
  obtain ⟨a, cap, hv⟩ := ht.shape
  obtain ⟨xa, xc, hxv⟩ := hx.shape
  have hK := with_start t x none 0 [] w a xa cap xc hv hxv ht hx (Sl.empty w none 0 1 (by unfold maxLen; omega))
  obtain ⟨kd, da, ex', va, ks⟩ := t
  obtain ⟨kx, dx, ex, vx, ksx⟩ := x
  simp only [Tr.kind, Tr.data, Tr.exec, Tr.v, Tr.kids] at hK hv hxv
  subst hv
  subst hxv
  have HTE := hidd (fun W (h : WtK w (.mk kd da ex' (.slice a ks.length cap) ks) (.mk kx dx ex (.slice xa ksx.length xc) ksx) (.slice none 0 0) [] W) => treeErr_any (.mk kd da ex' (.slice a ks.length cap) ks) W h.ot)
  have HT := hidd ht
  have HX := hidd hx
  have hb0 : treeE (Tr.mk kd da ex' (.slice a ks.length cap) ks : Lt).bare = treeE (Tr.mk kd da ex' (.slice a ks.length cap) ks : Lt) := treeE_map _ _
  have hbd : treeE (Tr.mk kd da ex' (.slice a ks.length cap) ks : Lt) ≤ 10 := scan_bd _ 0
  obtain ⟨c, hc⟩ : ∃ c, treeE (Tr.mk kd da ex' (.slice a ks.length cap) ks : Lt) = c := ⟨_, rfl⟩
  rw [hc] at hbd hb0
  have HC := hidd hc
  have HCB := hidd hb0
  obtain ⟨R, hR⟩ : ∃ R, putOf (Tr.mk kd da ex' (.slice a ks.length cap) ks : Lt).bare s (Tr.mk kx dx ex (.slice xa ksx.length xc) ksx : Lt).bare = R := ⟨_, rfl⟩
  rw [hR]
  have HR := hidd hR
  unfold nval at HTE ⊢
  simp only [Tr.kind, Tr.data, Tr.exec, Tr.v] at HTE ⊢
  have x0 := hK.bt.cell (i := 0) rfl
  have x1 := hK.bt.cell (i := 1) rfl
  have x2 := hK.bt.cell (i := 2) rfl
  have x3 := hK.bt.cell (i := 3) rfl
  simp only [Tr.kind, Tr.data, Tr.exec, Tr.v] at x0 x1 x2 x3
  have HK := hidd hK
  clear hK ht hc hR hb0 hx
  go_enter Tryz.func54, Tryz.ntmps54
  go_wp2_with fail
  refine (HTE.out _ HK.out).mono ?_
  rintro e w2 ⟨rfl, hb2⟩
  have HK2 := hidd (HK.out.later hb2)
  rw [HC.out]
  clear x0 x1 x2 x3 hb2
  by_cases h0 : c = 0
  · subst h0
    have HSP := hidd (rsplit_any s w2 hs)
    clear hbd
    go_wp2_with fail
    refine HSP.out.mono ?_
    rintro e w3 ⟨hb3, hr⟩
    have HK3 := hidd (HK2.out.later hb3)
    rcases hr with ⟨l, v, hsp, rfl, hsl⟩ | ⟨hsp, rfl⟩
    · obtain ⟨la, lc, rfl, -⟩ := id hsl
      have hle := hsl.le
      have HP := hidd hsp
      have HSL := hidd hsl
      clear hsp hsl hb3
      have HST := hidd (set_any false l (.mk kd da ex' (.slice a ks.length cap) ks) (.mk kx dx ex (.slice xa ksx.length xc) ksx) (.slice la l.length lc) w3 (fun h => by cases h) HK3.out.ot HK3.out.ox HC.out HSL.out (fun m hm => split_size HP.out m hm))
      unfold nval at HST
      simp only [Tr.kind, Tr.data, Tr.exec, Tr.v] at HST
      obtain ⟨x0, x1, x2, x3⟩ : _ ∧ _ ∧ _ ∧ _ := ⟨HK3.out.bt.cell (i := 0) rfl, HK3.out.bt.cell (i := 1) rfl, HK3.out.bt.cell (i := 2) rfl, HK3.out.bt.cell (i := 3) rfl⟩
      obtain ⟨z0, z1, z2, z3⟩ : _ ∧ _ ∧ _ ∧ _ := ⟨HK3.out.bx.cell (i := 0) rfl, HK3.out.bx.cell (i := 1) rfl, HK3.out.bx.cell (i := 2) rfl, HK3.out.bx.cell (i := 3) rfl⟩
      simp only [Tr.kind, Tr.data, Tr.exec, Tr.v] at x0 x1 x2 x3 z0 z1 z2 z3
      go_wp2_with fail
      refine HST.out.mono ?_
      intro e w4 hyy
      obtain ⟨ky, dy, ey, ya, yc, ksy, b5, he5, hy5, hi5, hb5, hm5⟩ := hyy.parts
      subst he5
      have HK4 := hidd ((HK3.out.later hb5).alloc (.cells #[.string ky, .string dy, .bool ey, .slice ya ksy.length yc] 24))
      have hn4 := Blk.new w4 [.string ky, .string dy, .bool ey, .slice ya ksy.length yc] 24
      have HY4 := hidd (hy5.out.alloc (.cells #[.string ky, .string dy, .bool ey, .slice ya ksy.length yc] 24))
      have hnw : w4.heap.size ≠ w.heap.size + 2 := by have := (HK3.out.later hb5).bz.lt; omega
      clear HST hb5 hy5 x0 x1 x2 x3 z0 z1 z2 z3
      go_upto_region 8 with fail
      generalize w4.alloc (.cells #[.string ky, .string dy, .bool ey, .slice ya ksy.length yc] 24) = w5 at *
      generalize w4.heap.size = N at *
      cases b5
      · have HE6 : Hid (R = .error 6) := hidd (by
          rw [← HR.out]
          have hm := hm5.out
          revert hm
          cases hq : setT _ _ l _ with
          | none => intro _; exact putOf_none HCB.out HP.out (by rw [← setT_put]; exact hq)
          | some Y => intro hm; cases hm.1)
        clear hn4
        have hKr := HK4.out
        have f0 := hKr.bz.frozen 0
        have f1 := hKr.bz.frozen 1
        have f2 := hKr.bz.frozen 2
        have f3 := hKr.bz.frozen 3
        have y0 := hKr.bz.cell (i := 0) rfl
        have y1 := hKr.bz.cell (i := 1) rfl
        have y2 := hKr.bz.cell (i := 2) rfl
        have y3 := hKr.bz.cell (i := 3) rfl
        have s4 := hKr.bz.four (x0 := .string ⟨#[]⟩) (x1 := .string ⟨#[]⟩) (x2 := .bool false) (x3 := .slice none 0 0)
        have r0 := s4.cell (i := 0) rfl
        have r1 := s4.cell (i := 1) rfl
        have r2 := s4.cell (i := 2) rfl
        have r3 := s4.cell (i := 3) rfl
        have HBF := hidd (hKr.below.trans (((Fr.refl (fun b => b = w.heap.size + 2) _).four (p := w.heap.size + 2) (.inl rfl) (.string ⟨#[]⟩) (.string ⟨#[]⟩) (.bool false) (.slice none 0 0)).below hKr.below.size (fun b e => by omega)))
        clear hKr s4
        go_wp2_with fail
        refine bodyPost_ret (v := .tuple #[nodeZ, .int .i64 6]) ?_ rfl ?_
        · unfold nodeZ
          rw [results_cell_tmp rfl]
          go_simp
        · exact ⟨HBF.out, .inl ⟨6, HE6.out, by decide, by decide, rfl⟩⟩
      · have hw : withT (Tr.mk kx dx ex (.slice xa ksx.length xc) ksx : Lt).bare l (Tr.mk kd da ex' (.slice a ks.length cap) ks : Lt).bare = some (Tr.mk ky dy ey (.slice ya ksy.length yc) ksy : Lt).bare := by
          have hm := hm5.out
          rw [← setT_put]
          revert hm
          cases setT _ _ l _ with
          | none => intro hm; cases hm
          | some Y => intro hm; rw [hm.2]
        have hby : treeE (Tr.mk ky dy ey (.slice ya ksy.length yc) ksy : Lt).bare = treeE (Tr.mk ky dy ey (.slice ya ksy.length yc) ksy : Lt) := treeE_map _ _
        have hbd : treeE (Tr.mk ky dy ey (.slice ya ksy.length yc) ksy : Lt) ≤ 10 := scan_bd _ 0
        have HTY := hidd (treeErr_any (Tr.mk ky dy ey (.slice ya ksy.length yc) ksy : Lt) w5 HY4.out)
        obtain ⟨d, hd⟩ : ∃ d, treeE (Tr.mk ky dy ey (.slice ya ksy.length yc) ksy : Lt) = d := ⟨_, rfl⟩
        rw [hd] at hbd hby HTY
        have HW := hidd hw
        have HBY := hidd hby
        unfold nval at HTY
        simp only [Tr.kind, Tr.data, Tr.exec, Tr.v] at HTY
        have n0 := hn4.cell (i := 0) rfl
        have n1 := hn4.cell (i := 1) rfl
        have n2 := hn4.cell (i := 2) rfl
        have n3 := hn4.cell (i := 3) rfl
        have HN4 := hidd hn4
        clear hw hby hd hn4
        go_wp2_with fail
        refine HTY.out.mono ?_
        rintro e w6 ⟨rfl, hb6⟩
        have HK6 := hidd (HK4.out.later hb6)
        have hn6 := HN4.out.below hb6 HN4.out.lt
        have HY6 := hidd (HY4.out.ob hb6)
        clear n0 n1 n2 n3 hb6 HTY
        by_cases hd0 : d = 0
        · subst hd0
          have HE : Hid (R = .ok (Tr.mk ky dy ey (.slice ya ksy.length yc) ksy : Lt).bare) := hidd (by rw [← HR.out]; exact putOf_ok HCB.out HP.out HW.out HBY.out)
          clear hbd
          have n0 := hn6.cell (i := 0) rfl
          have n1 := hn6.cell (i := 1) rfl
          have n2 := hn6.cell (i := 2) rfl
          have n3 := hn6.cell (i := 3) rfl
          have hKr := HK6.out
          have f0 := hKr.bz.frozen 0
          have f1 := hKr.bz.frozen 1
          have f2 := hKr.bz.frozen 2
          have f3 := hKr.bz.frozen 3
          have y0 := hKr.bz.cell (i := 0) rfl
          have y1 := hKr.bz.cell (i := 1) rfl
          have y2 := hKr.bz.cell (i := 2) rfl
          have y3 := hKr.bz.cell (i := 3) rfl
          have s4 := hKr.bz.four (x0 := .string ky) (x1 := .string dy) (x2 := .bool ey) (x3 := .slice ya ksy.length yc)
          have r0 := s4.cell (i := 0) rfl
          have r1 := s4.cell (i := 1) rfl
          have r2 := s4.cell (i := 2) rfl
          have r3 := s4.cell (i := 3) rfl
          have hFR := (Fr.refl (fun b => b = w.heap.size + 2) w6).four (p := w.heap.size + 2) (.inl rfl) (.string ky) (.string dy) (.bool ey) (.slice ya ksy.length yc)
          have HBF := hidd (hKr.below.trans (hFR.below hKr.below.size (fun b e => by omega)))
          have HYI := hidd (hi5.out (fun b => b < w.heap.size) (ok_in _ HT.out) (ok_in _ HX.out))
          have hz3 := HK3.out.bz.lt
          have HYF := hidd (ok_fr hFR _ HY6.out (in_mono (fun b hb e => by omega) _ HYI.out))
          clear hKr s4 hFR hn6 HYI
          go_wp2_with fail
          refine bodyPost_ret (v := .tuple #[.agg #[.string ky, .string dy, .bool ey, .slice ya ksy.length yc], .int .i64 0]) ?_ rfl ?_
          · rw [results_cell_tmp rfl]
            go_simp
          · exact ⟨HBF.out, .inr ⟨_, HE.out, rfl, HYF.out, fun F h1 h2 => in_mono (fun b hb => by
              rcases hb with h | h
              · exact .inl h
              · exact .inr (by omega)) _ (hi5.out F h1 h2)⟩⟩
        · have HE : Hid (R = .error d) := hidd (by rw [← HR.out, ← HBY.out]; exact putOf_bad HCB.out HP.out HW.out (by rw [HBY.out]; exact hd0))
          have HD0 := hidd hd0
          have HBD := hidd hbd
          have p3 : decide ((0 : Int) < (d : Int)) = true := decide_eq_true (by omega)
          have p4 : (0 : Int) < (d : Int) := by omega
          clear hd0 hn6
          have hKr := HK6.out
          have f0 := hKr.bz.frozen 0
          have f1 := hKr.bz.frozen 1
          have f2 := hKr.bz.frozen 2
          have f3 := hKr.bz.frozen 3
          have y0 := hKr.bz.cell (i := 0) rfl
          have y1 := hKr.bz.cell (i := 1) rfl
          have y2 := hKr.bz.cell (i := 2) rfl
          have y3 := hKr.bz.cell (i := 3) rfl
          have s4 := hKr.bz.four (x0 := .string ⟨#[]⟩) (x1 := .string ⟨#[]⟩) (x2 := .bool false) (x3 := .slice none 0 0)
          have r0 := s4.cell (i := 0) rfl
          have r1 := s4.cell (i := 1) rfl
          have r2 := s4.cell (i := 2) rfl
          have r3 := s4.cell (i := 3) rfl
          have HBF := hidd (hKr.below.trans (((Fr.refl (fun b => b = w.heap.size + 2) _).four (p := w.heap.size + 2) (.inl rfl) (.string ⟨#[]⟩) (.string ⟨#[]⟩) (.bool false) (.slice none 0 0)).below hKr.below.size (fun b e => by omega)))
          clear hKr s4
          go_wp2_with fail
          refine bodyPost_ret (v := .tuple #[nodeZ, .int .i64 (d : Int)]) ?_ rfl ?_
          · unfold nodeZ
            rw [results_cell_tmp rfl]
            go_simp
          · exact ⟨HBF.out, .inl ⟨d, HE.out, HD0.out, HBD.out, rfl⟩⟩
    · have HE5 : Hid (R = .error 5) := hidd (by rw [← HR.out]; exact putOf_split HCB.out hsp)
      clear hsp hb3
      have hKr := HK3.out
      have f0 := hKr.bz.frozen 0
      have f1 := hKr.bz.frozen 1
      have f2 := hKr.bz.frozen 2
      have f3 := hKr.bz.frozen 3
      have y0 := hKr.bz.cell (i := 0) rfl
      have y1 := hKr.bz.cell (i := 1) rfl
      have y2 := hKr.bz.cell (i := 2) rfl
      have y3 := hKr.bz.cell (i := 3) rfl
      have s4 := hKr.bz.four (x0 := .string ⟨#[]⟩) (x1 := .string ⟨#[]⟩) (x2 := .bool false) (x3 := .slice none 0 0)
      have r0 := s4.cell (i := 0) rfl
      have r1 := s4.cell (i := 1) rfl
      have r2 := s4.cell (i := 2) rfl
      have r3 := s4.cell (i := 3) rfl
      have HBF := hidd (hKr.below.trans (((Fr.refl (fun b => b = w.heap.size + 2) _).four (p := w.heap.size + 2) (.inl rfl) (.string ⟨#[]⟩) (.string ⟨#[]⟩) (.bool false) (.slice none 0 0)).below hKr.below.size (fun b e => by omega)))
      clear hKr s4
      go_wp2_with fail
      refine bodyPost_ret (v := .tuple #[nodeZ, .int .i64 5]) ?_ rfl ?_
      · unfold nodeZ
        rw [results_cell_tmp rfl]
        go_simp
      · exact ⟨HBF.out, .inl ⟨5, HE5.out, by decide, by decide, rfl⟩⟩
  · have HE : Hid (R = .error c) := hidd (by rw [← HR.out, ← HCB.out]; exact putOf_err (by rw [HCB.out]; exact h0))
    have HC0 := hidd h0
    have HBD := hidd hbd
    have p3 : decide ((0 : Int) < (c : Int)) = true := decide_eq_true (by omega)
    have p4 : (0 : Int) < (c : Int) := by omega
    clear h0
    have hKr := HK2.out
    have f0 := hKr.bz.frozen 0
    have f1 := hKr.bz.frozen 1
    have f2 := hKr.bz.frozen 2
    have f3 := hKr.bz.frozen 3
    have y0 := hKr.bz.cell (i := 0) rfl
    have y1 := hKr.bz.cell (i := 1) rfl
    have y2 := hKr.bz.cell (i := 2) rfl
    have y3 := hKr.bz.cell (i := 3) rfl
    have s4 := hKr.bz.four (x0 := .string ⟨#[]⟩) (x1 := .string ⟨#[]⟩) (x2 := .bool false) (x3 := .slice none 0 0)
    have r0 := s4.cell (i := 0) rfl
    have r1 := s4.cell (i := 1) rfl
    have r2 := s4.cell (i := 2) rfl
    have r3 := s4.cell (i := 3) rfl
    have HBF := hidd (hKr.below.trans (((Fr.refl (fun b => b = w.heap.size + 2) _).four (p := w.heap.size + 2) (.inl rfl) (.string ⟨#[]⟩) (.string ⟨#[]⟩) (.bool false) (.slice none 0 0)).below hKr.below.size (fun b e => by omega)))
    clear hKr s4
    go_wp2_with fail
    refine bodyPost_ret (v := .tuple #[nodeZ, .int .i64 (c : Int)]) ?_ rfl ?_
    · unfold nodeZ
      rw [results_cell_tmp rfl]
      go_simp
    · exact ⟨HBF.out, .inl ⟨c, HE.out, HC0.out, HBD.out, rfl⟩⟩

set_option maxRecDepth 100000 in
set_option maxHeartbeats 40000000 in
theorem rdrop_any (t : Lt) (s : ByteArray) (w : World) (ht : t.Ok w) (hs : s.size ≤ 1000000) :
    Calls Tryz.prog 55 #[nval t, .string s] w (RpP t LtZ (dropOf t.bare s) w) := by
  obtain ⟨a, cap, hv⟩ := ht.shape
  have hK := GoK.start w t a cap hv ht
  obtain ⟨kd, da, ex', va, ks⟩ := t
  simp only [Tr.kind, Tr.data, Tr.exec, Tr.v, Tr.kids] at hK hv
  subst hv
  have HTE := hidd (fun W (h : GoK w (.mk kd da ex' (.slice a ks.length cap) ks) W) => treeErr_any (.mk kd da ex' (.slice a ks.length cap) ks) W h.ot)
  have HT := hidd ht
  have HX : Hid ((Tr.mk ⟨#[]⟩ ⟨#[]⟩ false (.slice none 0 0) [] : Lt).Ok w) := hidd (Tr.Ok.mk' (Sl.nil _ _) (fun x hx => by cases hx) (fun x hx => by cases hx))
  have hb0 : treeE (Tr.mk kd da ex' (.slice a ks.length cap) ks : Lt).bare = treeE (Tr.mk kd da ex' (.slice a ks.length cap) ks : Lt) := treeE_map _ _
  have hbd : treeE (Tr.mk kd da ex' (.slice a ks.length cap) ks : Lt) ≤ 10 := scan_bd _ 0
  obtain ⟨c, hc⟩ : ∃ c, treeE (Tr.mk kd da ex' (.slice a ks.length cap) ks : Lt) = c := ⟨_, rfl⟩
  rw [hc] at hbd hb0
  have HC := hidd hc
  have HCB := hidd hb0
  obtain ⟨R, hR⟩ : ∃ R, dropOf (Tr.mk kd da ex' (.slice a ks.length cap) ks : Lt).bare s = R := ⟨_, rfl⟩
  rw [hR]
  have HR := hidd hR
  unfold nval at HTE ⊢
  simp only [Tr.kind, Tr.data, Tr.exec, Tr.v] at HTE ⊢
  have x0 := hK.bt.cell (i := 0) rfl
  have x1 := hK.bt.cell (i := 1) rfl
  have x2 := hK.bt.cell (i := 2) rfl
  have x3 := hK.bt.cell (i := 3) rfl
  simp only [Tr.kind, Tr.data, Tr.exec, Tr.v] at x0 x1 x2 x3
  have HK := hidd hK
  clear hK ht hc hR hb0
  go_enter Tryz.func55, Tryz.ntmps55
  go_wp2_with fail
  refine (HTE.out _ HK.out).mono ?_
  rintro e w2 ⟨rfl, hb2⟩
  have HK2 := hidd (HK.out.later hb2)
  rw [HC.out]
  clear x0 x1 x2 x3 hb2
  by_cases h0 : c = 0
  · subst h0
    have HSP := hidd (rsplit_any s w2 hs)
    clear hbd
    go_wp2_with fail
    refine HSP.out.mono ?_
    rintro e w3 ⟨hb3, hr⟩
    have HK3 := hidd (HK2.out.later hb3)
    rcases hr with ⟨l, v, hsp, rfl, hsl⟩ | ⟨hsp, rfl⟩
    · obtain ⟨la, lc, rfl, -⟩ := id hsl
      have hle := hsl.le
      have HP := hidd hsp
      have HSL := hidd hsl
      clear hsp hsl hb3
      by_cases hl0 : l = []
      · subst hl0
        have HE3 : Hid (R = .error 3) := hidd (by rw [← HR.out]; exact dropOf_root HCB.out HP.out)
        have hKr := HK3.out
        have f0 := hKr.bz.frozen 0
        have f1 := hKr.bz.frozen 1
        have f2 := hKr.bz.frozen 2
        have f3 := hKr.bz.frozen 3
        have y0 := hKr.bz.cell (i := 0) rfl
        have y1 := hKr.bz.cell (i := 1) rfl
        have y2 := hKr.bz.cell (i := 2) rfl
        have y3 := hKr.bz.cell (i := 3) rfl
        have s4 := hKr.bz.four (x0 := .string ⟨#[]⟩) (x1 := .string ⟨#[]⟩) (x2 := .bool false) (x3 := .slice none 0 0)
        have r0 := s4.cell (i := 0) rfl
        have r1 := s4.cell (i := 1) rfl
        have r2 := s4.cell (i := 2) rfl
        have r3 := s4.cell (i := 3) rfl
        have HBF := hidd (hKr.below.trans (((Fr.refl (fun b => b = w.heap.size + 1) _).four (p := w.heap.size + 1) (.inl rfl) (.string ⟨#[]⟩) (.string ⟨#[]⟩) (.bool false) (.slice none 0 0)).below hKr.below.size (fun b e => by omega)))
        clear hKr s4
        go_wp2_with fail
        refine bodyPost_ret (v := .tuple #[nodeZ, .int .i64 3]) ?_ rfl ?_
        · unfold nodeZ
          rw [results_cell_tmp rfl]
          go_simp
        · exact ⟨HBF.out, .inl ⟨3, HE3.out, by decide, by decide, rfl⟩⟩
      have HL0 := hidd hl0
      have e7 : ((l.length : Int) == 0) = false := by
        have := List.length_pos_iff.2 hl0
        simp; omega
      clear hl0
      have HST := hidd (set_any true l (.mk kd da ex' (.slice a ks.length cap) ks) (.mk ⟨#[]⟩ ⟨#[]⟩ false (.slice none 0 0) []) (.slice la l.length lc) w3 (fun _ => HL0.out) HK3.out.ot (HX.out.ob HK3.out.below) HC.out HSL.out (fun m hm => split_size HP.out m hm))
      unfold nval at HST
      simp only [Tr.kind, Tr.data, Tr.exec, Tr.v] at HST
      obtain ⟨x0, x1, x2, x3⟩ : _ ∧ _ ∧ _ ∧ _ := ⟨HK3.out.bt.cell (i := 0) rfl, HK3.out.bt.cell (i := 1) rfl, HK3.out.bt.cell (i := 2) rfl, HK3.out.bt.cell (i := 3) rfl⟩
      simp only [Tr.kind, Tr.data, Tr.exec, Tr.v] at x0 x1 x2 x3
      go_wp2_with fail
      refine HST.out.mono ?_
      intro e w4 hyy
      obtain ⟨ky, dy, ey, ya, yc, ksy, b5, he5, hy5, hi5, hb5, hm5⟩ := hyy.parts
      subst he5
      have HK4 := hidd ((HK3.out.later hb5).later ((Below.refl _ _).alloc (Nat.le_refl _) (.cells #[.string ky, .string dy, .bool ey, .slice ya ksy.length yc] 24)))
      have hn4 := Blk.new w4 [.string ky, .string dy, .bool ey, .slice ya ksy.length yc] 24
      have HY4 := hidd (hy5.out.alloc (.cells #[.string ky, .string dy, .bool ey, .slice ya ksy.length yc] 24))
      have hnw : w4.heap.size ≠ w.heap.size + 1 := by have := (HK3.out.later hb5).bz.lt; omega
      clear HST hb5 hy5 x0 x1 x2 x3
      go_upto_region 10 with fail
      generalize w4.alloc (.cells #[.string ky, .string dy, .bool ey, .slice ya ksy.length yc] 24) = w5 at *
      generalize w4.heap.size = N at *
      cases b5
      · have HE6 : Hid (R = .error 6) := hidd (by
          rw [← HR.out]
          have hm := hm5.out
          revert hm
          cases hq : setT _ _ l _ with
          | none => intro _; exact dropOf_none HCB.out HP.out HL0.out (by unfold setT at hq; rw [if_pos rfl] at hq; revert hq; cases atT _ l with | none => intro _; rfl | some z => intro hq; cases hq)
          | some Y => intro hm; cases hm.1)
        clear hn4
        have hKr := HK4.out
        have f0 := hKr.bz.frozen 0
        have f1 := hKr.bz.frozen 1
        have f2 := hKr.bz.frozen 2
        have f3 := hKr.bz.frozen 3
        have y0 := hKr.bz.cell (i := 0) rfl
        have y1 := hKr.bz.cell (i := 1) rfl
        have y2 := hKr.bz.cell (i := 2) rfl
        have y3 := hKr.bz.cell (i := 3) rfl
        have s4 := hKr.bz.four (x0 := .string ⟨#[]⟩) (x1 := .string ⟨#[]⟩) (x2 := .bool false) (x3 := .slice none 0 0)
        have r0 := s4.cell (i := 0) rfl
        have r1 := s4.cell (i := 1) rfl
        have r2 := s4.cell (i := 2) rfl
        have r3 := s4.cell (i := 3) rfl
        have HBF := hidd (hKr.below.trans (((Fr.refl (fun b => b = w.heap.size + 1) _).four (p := w.heap.size + 1) (.inl rfl) (.string ⟨#[]⟩) (.string ⟨#[]⟩) (.bool false) (.slice none 0 0)).below hKr.below.size (fun b e => by omega)))
        clear hKr s4
        go_wp2_with fail
        refine bodyPost_ret (v := .tuple #[nodeZ, .int .i64 6]) ?_ rfl ?_
        · unfold nodeZ
          rw [results_cell_tmp rfl]
          go_simp
        · exact ⟨HBF.out, .inl ⟨6, HE6.out, by decide, by decide, rfl⟩⟩
      · have HE : Hid (R = .ok (Tr.mk ky dy ey (.slice ya ksy.length yc) ksy : Lt).bare) := hidd (by
          have hm := hm5.out
          rw [← HR.out]
          unfold setT at hm
          rw [if_pos rfl] at hm
          revert hm
          cases hq : atT _ l with
          | none => intro hm; cases hm
          | some z =>
            intro hm
            rw [hm.2]
            exact dropOf_ok HCB.out HP.out HL0.out hq)
        have n0 := hn4.cell (i := 0) rfl
        have n1 := hn4.cell (i := 1) rfl
        have n2 := hn4.cell (i := 2) rfl
        have n3 := hn4.cell (i := 3) rfl
        have hKr := HK4.out
        have f0 := hKr.bz.frozen 0
        have f1 := hKr.bz.frozen 1
        have f2 := hKr.bz.frozen 2
        have f3 := hKr.bz.frozen 3
        have y0 := hKr.bz.cell (i := 0) rfl
        have y1 := hKr.bz.cell (i := 1) rfl
        have y2 := hKr.bz.cell (i := 2) rfl
        have y3 := hKr.bz.cell (i := 3) rfl
        have s4 := hKr.bz.four (x0 := .string ky) (x1 := .string dy) (x2 := .bool ey) (x3 := .slice ya ksy.length yc)
        have r0 := s4.cell (i := 0) rfl
        have r1 := s4.cell (i := 1) rfl
        have r2 := s4.cell (i := 2) rfl
        have r3 := s4.cell (i := 3) rfl
        have hFR := (Fr.refl (fun b => b = w.heap.size + 1) w5).four (p := w.heap.size + 1) (.inl rfl) (.string ky) (.string dy) (.bool ey) (.slice ya ksy.length yc)
        have HBF := hidd (hKr.below.trans (hFR.below hKr.below.size (fun b e => by omega)))
        have HYI := hidd (hi5.out (fun b => b < w.heap.size) (ok_in _ HT.out) (ok_in _ HX.out))
        have hz3 := HK3.out.bz.lt
        have HYF := hidd (ok_fr hFR _ HY4.out (in_mono (fun b hb e => by omega) _ HYI.out))
        clear hKr s4 hFR hn4 HYI
        go_wp2_with fail
        refine bodyPost_ret (v := .tuple #[.agg #[.string ky, .string dy, .bool ey, .slice ya ksy.length yc], .int .i64 0]) ?_ rfl ?_
        · rw [results_cell_tmp rfl]
          go_simp
        · exact ⟨HBF.out, .inr ⟨_, HE.out, rfl, HYF.out, fun F h1 h2 => in_mono (fun b hb => by
            rcases hb with h | h
            · exact .inl h
            · exact .inr (by omega)) _ (hi5.out F h1 h2)⟩⟩
    · have HE5 : Hid (R = .error 5) := hidd (by rw [← HR.out]; exact dropOf_split HCB.out hsp)
      clear hsp hb3
      have hKr := HK3.out
      have f0 := hKr.bz.frozen 0
      have f1 := hKr.bz.frozen 1
      have f2 := hKr.bz.frozen 2
      have f3 := hKr.bz.frozen 3
      have y0 := hKr.bz.cell (i := 0) rfl
      have y1 := hKr.bz.cell (i := 1) rfl
      have y2 := hKr.bz.cell (i := 2) rfl
      have y3 := hKr.bz.cell (i := 3) rfl
      have s4 := hKr.bz.four (x0 := .string ⟨#[]⟩) (x1 := .string ⟨#[]⟩) (x2 := .bool false) (x3 := .slice none 0 0)
      have r0 := s4.cell (i := 0) rfl
      have r1 := s4.cell (i := 1) rfl
      have r2 := s4.cell (i := 2) rfl
      have r3 := s4.cell (i := 3) rfl
      have HBF := hidd (hKr.below.trans (((Fr.refl (fun b => b = w.heap.size + 1) _).four (p := w.heap.size + 1) (.inl rfl) (.string ⟨#[]⟩) (.string ⟨#[]⟩) (.bool false) (.slice none 0 0)).below hKr.below.size (fun b e => by omega)))
      clear hKr s4
      go_wp2_with fail
      refine bodyPost_ret (v := .tuple #[nodeZ, .int .i64 5]) ?_ rfl ?_
      · unfold nodeZ
        rw [results_cell_tmp rfl]
        go_simp
      · exact ⟨HBF.out, .inl ⟨5, HE5.out, by decide, by decide, rfl⟩⟩
  · have HE : Hid (R = .error c) := hidd (by rw [← HR.out, ← HCB.out]; exact dropOf_err (by rw [HCB.out]; exact h0))
    have HC0 := hidd h0
    have HBD := hidd hbd
    have p3 : decide ((0 : Int) < (c : Int)) = true := decide_eq_true (by omega)
    have p4 : (0 : Int) < (c : Int) := by omega
    clear h0
    have hKr := HK2.out
    have f0 := hKr.bz.frozen 0
    have f1 := hKr.bz.frozen 1
    have f2 := hKr.bz.frozen 2
    have f3 := hKr.bz.frozen 3
    have y0 := hKr.bz.cell (i := 0) rfl
    have y1 := hKr.bz.cell (i := 1) rfl
    have y2 := hKr.bz.cell (i := 2) rfl
    have y3 := hKr.bz.cell (i := 3) rfl
    have s4 := hKr.bz.four (x0 := .string ⟨#[]⟩) (x1 := .string ⟨#[]⟩) (x2 := .bool false) (x3 := .slice none 0 0)
    have r0 := s4.cell (i := 0) rfl
    have r1 := s4.cell (i := 1) rfl
    have r2 := s4.cell (i := 2) rfl
    have r3 := s4.cell (i := 3) rfl
    have HBF := hidd (hKr.below.trans (((Fr.refl (fun b => b = w.heap.size + 1) _).four (p := w.heap.size + 1) (.inl rfl) (.string ⟨#[]⟩) (.string ⟨#[]⟩) (.bool false) (.slice none 0 0)).below hKr.below.size (fun b e => by omega)))
    clear hKr s4
    go_wp2_with fail
    refine bodyPost_ret (v := .tuple #[nodeZ, .int .i64 (c : Int)]) ?_ rfl ?_
    · unfold nodeZ
      rw [results_cell_tmp rfl]
      go_simp
    · exact ⟨HBF.out, .inl ⟨c, HE.out, HC0.out, HBD.out, rfl⟩⟩
end Go.Proofs.YtoaedkinlnkkhaaGreatDoor

namespace Go.Proofs.YtoaedkinlnkkhaaGreatDoor
open Go.RowKit
end Go.Proofs.YtoaedkinlnkkhaaGreatDoor

namespace Go.Proofs.YtoaedkinlnkkhaaGreatDoor
open Go.RowKit Go.Shelf
/-- An error's number as a value. -/
def numV (c : Nat) : Value := .int .i64 (c : Int)
theorem RgP.two {t : Lt} {s : ByteArray} {w w' : World} {e : Ending} (h : RgP t s w e w') : TwoP numV (getOf t.bare s) (fun _ => True) w e w' := by
  obtain ⟨hb, ⟨c, hc, hc0, h1, rfl⟩ | ⟨y, hy, -, rfl, ho⟩⟩ := h
  · exact two_zero (by unfold Tr.bare; rw [getOf_map, hc]; rfl) hc0 h1 hb trivial
  · exact two_tree (by unfold Tr.bare; rw [getOf_map, hy]; rfl) ho hb trivial
theorem RpP.two {t x : Lt} {R : Except Nat Nd} {w w' : World} {e : Ending} (h : RpP t x R w e w') : TwoP numV R (fun y => ∀ F : Nat → Prop, t.In F → x.In F → y.In (fun b => F b ∨ w.heap.size ≤ b)) w e w' := by
  obtain ⟨hb, ⟨c, hc, hc0, h1, rfl⟩ | ⟨y, hy, rfl, ho, hi⟩⟩ := h
  · exact two_zero hc hc0 h1 hb (fun _ _ _ => ltZ_in _)
  · exact two_tree hy ho hb hi

end Go.Proofs.YtoaedkinlnkkhaaGreatDoor
