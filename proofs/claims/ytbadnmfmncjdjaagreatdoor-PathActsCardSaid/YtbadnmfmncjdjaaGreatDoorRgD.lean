/- The contracts of the reference's PutOf and DropOf. Condition: the trees are there, the text is short. · The contracts of the reference's joined and FollowOf. Condition: the tree is there, the text is short. · What PathActs compares, in one shape; the contract of path.Follow whole. Condition: as stated. -/
import Derived.Test.YtbadnmfmncjdjaaGreatDoorRgB
import Derived.Test.YtbadnmfmncjdjaaGreatDoorRgA
import Derived.Test.YtbadnmfmncjdjaaGreatDoorPwQD
import Derived.Test.YtbadnmfmncjdjaaGreatDoorPaVW
import Derived.Test.YtbadnmfmncjdjaaGreatDoorPs
namespace Go.Proofs.YtbadnmfmncjdjaaGreatDoor
open Go.RowKit
/-- What a call of the reference gives that makes a tree, or an error's number. -/
def RpP (t x : Lt) (R : Except Nat Nd) (w : World) (e : Ending) (w' : World) : Prop :=
  Below w.heap.size w w' ∧ ((∃ c : Nat, R = .error c ∧ c ≠ 0 ∧ c ≤ 10 ∧ e = .returned (.tuple #[nodeZ, .int .i64 (c : Int)])) ∨ (∃ y : Lt, R = .ok y.bare ∧ e = .returned (.tuple #[nval y, .int .i64 0]) ∧ y.Ok w' ∧ ∀ F : Nat → Prop, t.In F → x.In F → y.In (fun b => F b ∨ w.heap.size ≤ b)))
/-- No tree. -/
def LtZ : Lt := .mk ⟨#[]⟩ ⟨#[]⟩ false (.slice none 0 0) []
theorem ltZ_ok (w : World) : LtZ.Ok w := Tr.Ok.mk' (Sl.nil _ _) (fun x hx => by cases hx) (fun x hx => by cases hx)
theorem ltZ_in (F : Nat → Prop) : LtZ.In F := by unfold LtZ; rw [Tr.In]; exact ⟨fun h => absurd rfl h, by rw [InS]; trivial⟩

set_option maxRecDepth 100000 in
set_option maxHeartbeats 40000000 in
theorem rput_any (t x : Lt) (s : ByteArray) (w : World) (ht : t.Ok w) (hx : x.Ok w) (hs : s.size ≤ 1000000) :
    Calls Tryz.prog 29 #[nval t, .string s, nval x] w (RpP t x (putOf t.bare s x.bare) w) := by
  obtain ⟨a, cap, hv⟩ := ht.shape
  obtain ⟨xa, xc, hxv⟩ := hx.shape
  have hK := with_start t x none 0 [] w a xa cap xc hv hxv ht hx (Sl.empty w none 0 1 (by unfold maxLen; omega))
  obtain ⟨kd, da, ex', va, ks⟩ := t
  obtain ⟨kx, dx, ex, vx, ksx⟩ := x
  simp only [Tr.kind, Tr.data, Tr.exec, Tr.v, Tr.kids] at hK hv hxv
  subst hv
  subst hxv
  have HTE := hidd (fun W (h : WtK w (.mk kd da ex' (.slice a ks.length cap) ks) (.mk kx dx ex (.slice xa ksx.length xc) ksx) (.slice none 0 0) [] W) => treeErr_any (.mk kd da ex' (.slice a ks.length cap) ks) W h.ot)
  have HT := hidd ht
  have HX := hidd hx
  have hb0 : treeE (Tr.mk kd da ex' (.slice a ks.length cap) ks : Lt).bare = treeE (Tr.mk kd da ex' (.slice a ks.length cap) ks : Lt) := treeE_map _ _
  have hbd : treeE (Tr.mk kd da ex' (.slice a ks.length cap) ks : Lt) ≤ 10 := scan_bd _ 0
  obtain ⟨c, hc⟩ : ∃ c, treeE (Tr.mk kd da ex' (.slice a ks.length cap) ks : Lt) = c := ⟨_, rfl⟩
  rw [hc] at hbd hb0
  have HC := hidd hc
  have HCB := hidd hb0
  obtain ⟨R, hR⟩ : ∃ R, putOf (Tr.mk kd da ex' (.slice a ks.length cap) ks : Lt).bare s (Tr.mk kx dx ex (.slice xa ksx.length xc) ksx : Lt).bare = R := ⟨_, rfl⟩
  rw [hR]
  have HR := hidd hR
  unfold nval at HTE ⊢
  simp only [Tr.kind, Tr.data, Tr.exec, Tr.v] at HTE ⊢
  have x0 := hK.bt.cell (i := 0) rfl
  have x1 := hK.bt.cell (i := 1) rfl
  have x2 := hK.bt.cell (i := 2) rfl
  have x3 := hK.bt.cell (i := 3) rfl
  simp only [Tr.kind, Tr.data, Tr.exec, Tr.v] at x0 x1 x2 x3
  have HK := hidd hK
  clear hK ht hc hR hb0 hx
  go_enter Tryz.func29, Tryz.ntmps29
  go_wp2_with fail
  refine (HTE.out _ HK.out).mono ?_
  rintro e w2 ⟨rfl, hb2⟩
  have HK2 := hidd (HK.out.later hb2)
  rw [HC.out]
  clear x0 x1 x2 x3 hb2
  by_cases h0 : c = 0
  · subst h0
    have HSP := hidd (rsplit_any s w2 hs)
    clear hbd
    go_wp2_with fail
    refine HSP.out.mono ?_
    rintro e w3 ⟨hb3, hr⟩
    have HK3 := hidd (HK2.out.later hb3)
    rcases hr with ⟨l, v, hsp, rfl, hsl⟩ | ⟨hsp, rfl⟩
    · obtain ⟨la, lc, rfl, -⟩ := id hsl
      have hle := hsl.le
      have HP := hidd hsp
      have HSL := hidd hsl
      clear hsp hsl hb3
      have HST := hidd (set_any false l (.mk kd da ex' (.slice a ks.length cap) ks) (.mk kx dx ex (.slice xa ksx.length xc) ksx) (.slice la l.length lc) w3 (fun h => by cases h) HK3.out.ot HK3.out.ox HC.out HSL.out (fun m hm => split_size HP.out m hm))
      unfold nval at HST
      simp only [Tr.kind, Tr.data, Tr.exec, Tr.v] at HST
      obtain ⟨x0, x1, x2, x3⟩ : _ ∧ _ ∧ _ ∧ _ := ⟨HK3.out.bt.cell (i := 0) rfl, HK3.out.bt.cell (i := 1) rfl, HK3.out.bt.cell (i := 2) rfl, HK3.out.bt.cell (i := 3) rfl⟩
      obtain ⟨z0, z1, z2, z3⟩ : _ ∧ _ ∧ _ ∧ _ := ⟨HK3.out.bx.cell (i := 0) rfl, HK3.out.bx.cell (i := 1) rfl, HK3.out.bx.cell (i := 2) rfl, HK3.out.bx.cell (i := 3) rfl⟩
      simp only [Tr.kind, Tr.data, Tr.exec, Tr.v] at x0 x1 x2 x3 z0 z1 z2 z3
      go_wp2_with fail
      refine HST.out.mono ?_
      intro e w4 hyy
      obtain ⟨ky, dy, ey, ya, yc, ksy, b5, he5, hy5, hi5, hb5, hm5⟩ := hyy.parts
      subst he5
      have HK4 := hidd ((HK3.out.later hb5).alloc (.cells #[.string ky, .string dy, .bool ey, .slice ya ksy.length yc] 24))
      have hn4 := Blk.new w4 [.string ky, .string dy, .bool ey, .slice ya ksy.length yc] 24
      have HY4 := hidd (hy5.out.alloc (.cells #[.string ky, .string dy, .bool ey, .slice ya ksy.length yc] 24))
      have hnw : w4.heap.size ≠ w.heap.size + 2 := by have := (HK3.out.later hb5).bz.lt; omega
      clear HST hb5 hy5 x0 x1 x2 x3 z0 z1 z2 z3
      go_upto_region 8 with fail
      generalize w4.alloc (.cells #[.string ky, .string dy, .bool ey, .slice ya ksy.length yc] 24) = w5 at *
      generalize w4.heap.size = N at *
      cases b5
      · have HE6 : Hid (R = .error 6) := hidd (by
          rw [← HR.out]
          have hm := hm5.out
          revert hm
          cases hq : setT _ _ l _ with
          | none => intro _; exact putOf_none HCB.out HP.out (by rw [← setT_put]; exact hq)
          | some Y => intro hm; cases hm.1)
        clear hn4
        have hKr := HK4.out
        have f0 := hKr.bz.frozen 0
        have f1 := hKr.bz.frozen 1
        have f2 := hKr.bz.frozen 2
        have f3 := hKr.bz.frozen 3
        have y0 := hKr.bz.cell (i := 0) rfl
        have y1 := hKr.bz.cell (i := 1) rfl
        have y2 := hKr.bz.cell (i := 2) rfl
        have y3 := hKr.bz.cell (i := 3) rfl
        have s4 := hKr.bz.four (x0 := .string ⟨#[]⟩) (x1 := .string ⟨#[]⟩) (x2 := .bool false) (x3 := .slice none 0 0)
        have r0 := s4.cell (i := 0) rfl
        have r1 := s4.cell (i := 1) rfl
        have r2 := s4.cell (i := 2) rfl
        have r3 := s4.cell (i := 3) rfl
        have HBF := hidd (hKr.below.trans (((Fr.refl (fun b => b = w.heap.size + 2) _).four (p := w.heap.size + 2) (.inl rfl) (.string ⟨#[]⟩) (.string ⟨#[]⟩) (.bool false) (.slice none 0 0)).below hKr.below.size (fun b e => by omega)))
        clear hKr s4
        go_wp2_with fail
        refine bodyPost_ret (v := .tuple #[nodeZ, .int .i64 6]) ?_ rfl ?_
        · unfold nodeZ
          rw [results_cell_tmp rfl]
          go_simp
        · exact ⟨HBF.out, .inl ⟨6, HE6.out, by decide, by decide, rfl⟩⟩
      · have hw : withT (Tr.mk kx dx ex (.slice xa ksx.length xc) ksx : Lt).bare l (Tr.mk kd da ex' (.slice a ks.length cap) ks : Lt).bare = some (Tr.mk ky dy ey (.slice ya ksy.length yc) ksy : Lt).bare := by
          have hm := hm5.out
          rw [← setT_put]
          revert hm
          cases setT _ _ l _ with
          | none => intro hm; cases hm
          | some Y => intro hm; rw [hm.2]
        have hby : treeE (Tr.mk ky dy ey (.slice ya ksy.length yc) ksy : Lt).bare = treeE (Tr.mk ky dy ey (.slice ya ksy.length yc) ksy : Lt) := treeE_map _ _
        have hbd : treeE (Tr.mk ky dy ey (.slice ya ksy.length yc) ksy : Lt) ≤ 10 := scan_bd _ 0
        have HTY := hidd (treeErr_any (Tr.mk ky dy ey (.slice ya ksy.length yc) ksy : Lt) w5 HY4.out)
        obtain ⟨d, hd⟩ : ∃ d, treeE (Tr.mk ky dy ey (.slice ya ksy.length yc) ksy : Lt) = d := ⟨_, rfl⟩
        rw [hd] at hbd hby HTY
        have HW := hidd hw
        have HBY := hidd hby
        unfold nval at HTY
        simp only [Tr.kind, Tr.data, Tr.exec, Tr.v] at HTY
        have n0 := hn4.cell (i := 0) rfl
        have n1 := hn4.cell (i := 1) rfl
        have n2 := hn4.cell (i := 2) rfl
        have n3 := hn4.cell (i := 3) rfl
        have HN4 := hidd hn4
        clear hw hby hd hn4
        go_wp2_with fail
        refine HTY.out.mono ?_
        rintro e w6 ⟨rfl, hb6⟩
        have HK6 := hidd (HK4.out.later hb6)
        have hn6 := HN4.out.below hb6 HN4.out.lt
        have HY6 := hidd (HY4.out.ob hb6)
        clear n0 n1 n2 n3 hb6 HTY
        by_cases hd0 : d = 0
        · subst hd0
          have HE : Hid (R = .ok (Tr.mk ky dy ey (.slice ya ksy.length yc) ksy : Lt).bare) := hidd (by rw [← HR.out]; exact putOf_ok HCB.out HP.out HW.out HBY.out)
          clear hbd
          have n0 := hn6.cell (i := 0) rfl
          have n1 := hn6.cell (i := 1) rfl
          have n2 := hn6.cell (i := 2) rfl
          have n3 := hn6.cell (i := 3) rfl
          have hKr := HK6.out
          have f0 := hKr.bz.frozen 0
          have f1 := hKr.bz.frozen 1
          have f2 := hKr.bz.frozen 2
          have f3 := hKr.bz.frozen 3
          have y0 := hKr.bz.cell (i := 0) rfl
          have y1 := hKr.bz.cell (i := 1) rfl
          have y2 := hKr.bz.cell (i := 2) rfl
          have y3 := hKr.bz.cell (i := 3) rfl
          have s4 := hKr.bz.four (x0 := .string ky) (x1 := .string dy) (x2 := .bool ey) (x3 := .slice ya ksy.length yc)
          have r0 := s4.cell (i := 0) rfl
          have r1 := s4.cell (i := 1) rfl
          have r2 := s4.cell (i := 2) rfl
          have r3 := s4.cell (i := 3) rfl
          have hFR := (Fr.refl (fun b => b = w.heap.size + 2) w6).four (p := w.heap.size + 2) (.inl rfl) (.string ky) (.string dy) (.bool ey) (.slice ya ksy.length yc)
          have HBF := hidd (hKr.below.trans (hFR.below hKr.below.size (fun b e => by omega)))
          have HYI := hidd (hi5.out (fun b => b < w.heap.size) (ok_in _ HT.out) (ok_in _ HX.out))
          have hz3 := HK3.out.bz.lt
          have HYF := hidd (ok_fr hFR _ HY6.out (in_mono (fun b hb e => by omega) _ HYI.out))
          clear hKr s4 hFR hn6 HYI
          go_wp2_with fail
          refine bodyPost_ret (v := .tuple #[.agg #[.string ky, .string dy, .bool ey, .slice ya ksy.length yc], .int .i64 0]) ?_ rfl ?_
          · rw [results_cell_tmp rfl]
            go_simp
          · exact ⟨HBF.out, .inr ⟨_, HE.out, rfl, HYF.out, fun F h1 h2 => in_mono (fun b hb => by
              rcases hb with h | h
              · exact .inl h
              · exact .inr (by omega)) _ (hi5.out F h1 h2)⟩⟩
        · have HE : Hid (R = .error d) := hidd (by rw [← HR.out, ← HBY.out]; exact putOf_bad HCB.out HP.out HW.out (by rw [HBY.out]; exact hd0))
          have HD0 := hidd hd0
          have HBD := hidd hbd
          have p3 : decide ((0 : Int) < (d : Int)) = true := decide_eq_true (by omega)
          have p4 : (0 : Int) < (d : Int) := by omega
          clear hd0 hn6
          have hKr := HK6.out
          have f0 := hKr.bz.frozen 0
          have f1 := hKr.bz.frozen 1
          have f2 := hKr.bz.frozen 2
          have f3 := hKr.bz.frozen 3
          have y0 := hKr.bz.cell (i := 0) rfl
          have y1 := hKr.bz.cell (i := 1) rfl
          have y2 := hKr.bz.cell (i := 2) rfl
          have y3 := hKr.bz.cell (i := 3) rfl
          have s4 := hKr.bz.four (x0 := .string ⟨#[]⟩) (x1 := .string ⟨#[]⟩) (x2 := .bool false) (x3 := .slice none 0 0)
          have r0 := s4.cell (i := 0) rfl
          have r1 := s4.cell (i := 1) rfl
          have r2 := s4.cell (i := 2) rfl
          have r3 := s4.cell (i := 3) rfl
          have HBF := hidd (hKr.below.trans (((Fr.refl (fun b => b = w.heap.size + 2) _).four (p := w.heap.size + 2) (.inl rfl) (.string ⟨#[]⟩) (.string ⟨#[]⟩) (.bool false) (.slice none 0 0)).below hKr.below.size (fun b e => by omega)))
          clear hKr s4
          go_wp2_with fail
          refine bodyPost_ret (v := .tuple #[nodeZ, .int .i64 (d : Int)]) ?_ rfl ?_
          · unfold nodeZ
            rw [results_cell_tmp rfl]
            go_simp
          · exact ⟨HBF.out, .inl ⟨d, HE.out, HD0.out, HBD.out, rfl⟩⟩
    · have HE5 : Hid (R = .error 5) := hidd (by rw [← HR.out]; exact putOf_split HCB.out hsp)
      clear hsp hb3
      have hKr := HK3.out
      have f0 := hKr.bz.frozen 0
      have f1 := hKr.bz.frozen 1
      have f2 := hKr.bz.frozen 2
      have f3 := hKr.bz.frozen 3
      have y0 := hKr.bz.cell (i := 0) rfl
      have y1 := hKr.bz.cell (i := 1) rfl
      have y2 := hKr.bz.cell (i := 2) rfl
      have y3 := hKr.bz.cell (i := 3) rfl
      have s4 := hKr.bz.four (x0 := .string ⟨#[]⟩) (x1 := .string ⟨#[]⟩) (x2 := .bool false) (x3 := .slice none 0 0)
      have r0 := s4.cell (i := 0) rfl
      have r1 := s4.cell (i := 1) rfl
      have r2 := s4.cell (i := 2) rfl
      have r3 := s4.cell (i := 3) rfl
      have HBF := hidd (hKr.below.trans (((Fr.refl (fun b => b = w.heap.size + 2) _).four (p := w.heap.size + 2) (.inl rfl) (.string ⟨#[]⟩) (.string ⟨#[]⟩) (.bool false) (.slice none 0 0)).below hKr.below.size (fun b e => by omega)))
      clear hKr s4
      go_wp2_with fail
      refine bodyPost_ret (v := .tuple #[nodeZ, .int .i64 5]) ?_ rfl ?_
      · unfold nodeZ
        rw [results_cell_tmp rfl]
        go_simp
      · exact ⟨HBF.out, .inl ⟨5, HE5.out, by decide, by decide, rfl⟩⟩
  · have HE : Hid (R = .error c) := hidd (by rw [← HR.out, ← HCB.out]; exact putOf_err (by rw [HCB.out]; exact h0))
    have HC0 := hidd h0
    have HBD := hidd hbd
    have p3 : decide ((0 : Int) < (c : Int)) = true := decide_eq_true (by omega)
    have p4 : (0 : Int) < (c : Int) := by omega
    clear h0
    have hKr := HK2.out
    have f0 := hKr.bz.frozen 0
    have f1 := hKr.bz.frozen 1
    have f2 := hKr.bz.frozen 2
    have f3 := hKr.bz.frozen 3
    have y0 := hKr.bz.cell (i := 0) rfl
    have y1 := hKr.bz.cell (i := 1) rfl
    have y2 := hKr.bz.cell (i := 2) rfl
    have y3 := hKr.bz.cell (i := 3) rfl
    have s4 := hKr.bz.four (x0 := .string ⟨#[]⟩) (x1 := .string ⟨#[]⟩) (x2 := .bool false) (x3 := .slice none 0 0)
    have r0 := s4.cell (i := 0) rfl
    have r1 := s4.cell (i := 1) rfl
    have r2 := s4.cell (i := 2) rfl
    have r3 := s4.cell (i := 3) rfl
    have HBF := hidd (hKr.below.trans (((Fr.refl (fun b => b = w.heap.size + 2) _).four (p := w.heap.size + 2) (.inl rfl) (.string ⟨#[]⟩) (.string ⟨#[]⟩) (.bool false) (.slice none 0 0)).below hKr.below.size (fun b e => by omega)))
    clear hKr s4
    go_wp2_with fail
    refine bodyPost_ret (v := .tuple #[nodeZ, .int .i64 (c : Int)]) ?_ rfl ?_
    · unfold nodeZ
      rw [results_cell_tmp rfl]
      go_simp
    · exact ⟨HBF.out, .inl ⟨c, HE.out, HC0.out, HBD.out, rfl⟩⟩

set_option maxRecDepth 100000 in
set_option maxHeartbeats 40000000 in
theorem rdrop_any (t : Lt) (s : ByteArray) (w : World) (ht : t.Ok w) (hs : s.size ≤ 1000000) :
    Calls Tryz.prog 30 #[nval t, .string s] w (RpP t LtZ (dropOf t.bare s) w) := by
  obtain ⟨a, cap, hv⟩ := ht.shape
  have hK := GoK.start w t a cap hv ht
  obtain ⟨kd, da, ex', va, ks⟩ := t
  simp only [Tr.kind, Tr.data, Tr.exec, Tr.v, Tr.kids] at hK hv
  subst hv
  have HTE := hidd (fun W (h : GoK w (.mk kd da ex' (.slice a ks.length cap) ks) W) => treeErr_any (.mk kd da ex' (.slice a ks.length cap) ks) W h.ot)
  have HT := hidd ht
  have HX : Hid ((Tr.mk ⟨#[]⟩ ⟨#[]⟩ false (.slice none 0 0) [] : Lt).Ok w) := hidd (Tr.Ok.mk' (Sl.nil _ _) (fun x hx => by cases hx) (fun x hx => by cases hx))
  have hb0 : treeE (Tr.mk kd da ex' (.slice a ks.length cap) ks : Lt).bare = treeE (Tr.mk kd da ex' (.slice a ks.length cap) ks : Lt) := treeE_map _ _
  have hbd : treeE (Tr.mk kd da ex' (.slice a ks.length cap) ks : Lt) ≤ 10 := scan_bd _ 0
  obtain ⟨c, hc⟩ : ∃ c, treeE (Tr.mk kd da ex' (.slice a ks.length cap) ks : Lt) = c := ⟨_, rfl⟩
  rw [hc] at hbd hb0
  have HC := hidd hc
  have HCB := hidd hb0
  obtain ⟨R, hR⟩ : ∃ R, dropOf (Tr.mk kd da ex' (.slice a ks.length cap) ks : Lt).bare s = R := ⟨_, rfl⟩
  rw [hR]
  have HR := hidd hR
  unfold nval at HTE ⊢
  simp only [Tr.kind, Tr.data, Tr.exec, Tr.v] at HTE ⊢
  have x0 := hK.bt.cell (i := 0) rfl
  have x1 := hK.bt.cell (i := 1) rfl
  have x2 := hK.bt.cell (i := 2) rfl
  have x3 := hK.bt.cell (i := 3) rfl
  simp only [Tr.kind, Tr.data, Tr.exec, Tr.v] at x0 x1 x2 x3
  have HK := hidd hK
  clear hK ht hc hR hb0
  go_enter Tryz.func30, Tryz.ntmps30
  go_wp2_with fail
  refine (HTE.out _ HK.out).mono ?_
  rintro e w2 ⟨rfl, hb2⟩
  have HK2 := hidd (HK.out.later hb2)
  rw [HC.out]
  clear x0 x1 x2 x3 hb2
  by_cases h0 : c = 0
  · subst h0
    have HSP := hidd (rsplit_any s w2 hs)
    clear hbd
    go_wp2_with fail
    refine HSP.out.mono ?_
    rintro e w3 ⟨hb3, hr⟩
    have HK3 := hidd (HK2.out.later hb3)
    rcases hr with ⟨l, v, hsp, rfl, hsl⟩ | ⟨hsp, rfl⟩
    · obtain ⟨la, lc, rfl, -⟩ := id hsl
      have hle := hsl.le
      have HP := hidd hsp
      have HSL := hidd hsl
      clear hsp hsl hb3
      by_cases hl0 : l = []
      · subst hl0
        have HE3 : Hid (R = .error 3) := hidd (by rw [← HR.out]; exact dropOf_root HCB.out HP.out)
        have hKr := HK3.out
        have f0 := hKr.bz.frozen 0
        have f1 := hKr.bz.frozen 1
        have f2 := hKr.bz.frozen 2
        have f3 := hKr.bz.frozen 3
        have y0 := hKr.bz.cell (i := 0) rfl
        have y1 := hKr.bz.cell (i := 1) rfl
        have y2 := hKr.bz.cell (i := 2) rfl
        have y3 := hKr.bz.cell (i := 3) rfl
        have s4 := hKr.bz.four (x0 := .string ⟨#[]⟩) (x1 := .string ⟨#[]⟩) (x2 := .bool false) (x3 := .slice none 0 0)
        have r0 := s4.cell (i := 0) rfl
        have r1 := s4.cell (i := 1) rfl
        have r2 := s4.cell (i := 2) rfl
        have r3 := s4.cell (i := 3) rfl
        have HBF := hidd (hKr.below.trans (((Fr.refl (fun b => b = w.heap.size + 1) _).four (p := w.heap.size + 1) (.inl rfl) (.string ⟨#[]⟩) (.string ⟨#[]⟩) (.bool false) (.slice none 0 0)).below hKr.below.size (fun b e => by omega)))
        clear hKr s4
        go_wp2_with fail
        refine bodyPost_ret (v := .tuple #[nodeZ, .int .i64 3]) ?_ rfl ?_
        · unfold nodeZ
          rw [results_cell_tmp rfl]
          go_simp
        · exact ⟨HBF.out, .inl ⟨3, HE3.out, by decide, by decide, rfl⟩⟩
      have HL0 := hidd hl0
      have e7 : ((l.length : Int) == 0) = false := by
        have := List.length_pos_iff.2 hl0
        simp; omega
      clear hl0
      have HST := hidd (set_any true l (.mk kd da ex' (.slice a ks.length cap) ks) (.mk ⟨#[]⟩ ⟨#[]⟩ false (.slice none 0 0) []) (.slice la l.length lc) w3 (fun _ => HL0.out) HK3.out.ot (HX.out.ob HK3.out.below) HC.out HSL.out (fun m hm => split_size HP.out m hm))
      unfold nval at HST
      simp only [Tr.kind, Tr.data, Tr.exec, Tr.v] at HST
      obtain ⟨x0, x1, x2, x3⟩ : _ ∧ _ ∧ _ ∧ _ := ⟨HK3.out.bt.cell (i := 0) rfl, HK3.out.bt.cell (i := 1) rfl, HK3.out.bt.cell (i := 2) rfl, HK3.out.bt.cell (i := 3) rfl⟩
      simp only [Tr.kind, Tr.data, Tr.exec, Tr.v] at x0 x1 x2 x3
      go_wp2_with fail
      refine HST.out.mono ?_
      intro e w4 hyy
      obtain ⟨ky, dy, ey, ya, yc, ksy, b5, he5, hy5, hi5, hb5, hm5⟩ := hyy.parts
      subst he5
      have HK4 := hidd ((HK3.out.later hb5).later ((Below.refl _ _).alloc (Nat.le_refl _) (.cells #[.string ky, .string dy, .bool ey, .slice ya ksy.length yc] 24)))
      have hn4 := Blk.new w4 [.string ky, .string dy, .bool ey, .slice ya ksy.length yc] 24
      have HY4 := hidd (hy5.out.alloc (.cells #[.string ky, .string dy, .bool ey, .slice ya ksy.length yc] 24))
      have hnw : w4.heap.size ≠ w.heap.size + 1 := by have := (HK3.out.later hb5).bz.lt; omega
      clear HST hb5 hy5 x0 x1 x2 x3
      go_upto_region 10 with fail
      generalize w4.alloc (.cells #[.string ky, .string dy, .bool ey, .slice ya ksy.length yc] 24) = w5 at *
      generalize w4.heap.size = N at *
      cases b5
      · have HE6 : Hid (R = .error 6) := hidd (by
          rw [← HR.out]
          have hm := hm5.out
          revert hm
          cases hq : setT _ _ l _ with
          | none => intro _; exact dropOf_none HCB.out HP.out HL0.out (by unfold setT at hq; rw [if_pos rfl] at hq; revert hq; cases atT _ l with | none => intro _; rfl | some z => intro hq; cases hq)
          | some Y => intro hm; cases hm.1)
        clear hn4
        have hKr := HK4.out
        have f0 := hKr.bz.frozen 0
        have f1 := hKr.bz.frozen 1
        have f2 := hKr.bz.frozen 2
        have f3 := hKr.bz.frozen 3
        have y0 := hKr.bz.cell (i := 0) rfl
        have y1 := hKr.bz.cell (i := 1) rfl
        have y2 := hKr.bz.cell (i := 2) rfl
        have y3 := hKr.bz.cell (i := 3) rfl
        have s4 := hKr.bz.four (x0 := .string ⟨#[]⟩) (x1 := .string ⟨#[]⟩) (x2 := .bool false) (x3 := .slice none 0 0)
        have r0 := s4.cell (i := 0) rfl
        have r1 := s4.cell (i := 1) rfl
        have r2 := s4.cell (i := 2) rfl
        have r3 := s4.cell (i := 3) rfl
        have HBF := hidd (hKr.below.trans (((Fr.refl (fun b => b = w.heap.size + 1) _).four (p := w.heap.size + 1) (.inl rfl) (.string ⟨#[]⟩) (.string ⟨#[]⟩) (.bool false) (.slice none 0 0)).below hKr.below.size (fun b e => by omega)))
        clear hKr s4
        go_wp2_with fail
        refine bodyPost_ret (v := .tuple #[nodeZ, .int .i64 6]) ?_ rfl ?_
        · unfold nodeZ
          rw [results_cell_tmp rfl]
          go_simp
        · exact ⟨HBF.out, .inl ⟨6, HE6.out, by decide, by decide, rfl⟩⟩
      · have HE : Hid (R = .ok (Tr.mk ky dy ey (.slice ya ksy.length yc) ksy : Lt).bare) := hidd (by
          have hm := hm5.out
          rw [← HR.out]
          unfold setT at hm
          rw [if_pos rfl] at hm
          revert hm
          cases hq : atT _ l with
          | none => intro hm; cases hm
          | some z =>
            intro hm
            rw [hm.2]
            exact dropOf_ok HCB.out HP.out HL0.out hq)
        have n0 := hn4.cell (i := 0) rfl
        have n1 := hn4.cell (i := 1) rfl
        have n2 := hn4.cell (i := 2) rfl
        have n3 := hn4.cell (i := 3) rfl
        have hKr := HK4.out
        have f0 := hKr.bz.frozen 0
        have f1 := hKr.bz.frozen 1
        have f2 := hKr.bz.frozen 2
        have f3 := hKr.bz.frozen 3
        have y0 := hKr.bz.cell (i := 0) rfl
        have y1 := hKr.bz.cell (i := 1) rfl
        have y2 := hKr.bz.cell (i := 2) rfl
        have y3 := hKr.bz.cell (i := 3) rfl
        have s4 := hKr.bz.four (x0 := .string ky) (x1 := .string dy) (x2 := .bool ey) (x3 := .slice ya ksy.length yc)
        have r0 := s4.cell (i := 0) rfl
        have r1 := s4.cell (i := 1) rfl
        have r2 := s4.cell (i := 2) rfl
        have r3 := s4.cell (i := 3) rfl
        have hFR := (Fr.refl (fun b => b = w.heap.size + 1) w5).four (p := w.heap.size + 1) (.inl rfl) (.string ky) (.string dy) (.bool ey) (.slice ya ksy.length yc)
        have HBF := hidd (hKr.below.trans (hFR.below hKr.below.size (fun b e => by omega)))
        have HYI := hidd (hi5.out (fun b => b < w.heap.size) (ok_in _ HT.out) (ok_in _ HX.out))
        have hz3 := HK3.out.bz.lt
        have HYF := hidd (ok_fr hFR _ HY4.out (in_mono (fun b hb e => by omega) _ HYI.out))
        clear hKr s4 hFR hn4 HYI
        go_wp2_with fail
        refine bodyPost_ret (v := .tuple #[.agg #[.string ky, .string dy, .bool ey, .slice ya ksy.length yc], .int .i64 0]) ?_ rfl ?_
        · rw [results_cell_tmp rfl]
          go_simp
        · exact ⟨HBF.out, .inr ⟨_, HE.out, rfl, HYF.out, fun F h1 h2 => in_mono (fun b hb => by
            rcases hb with h | h
            · exact .inl h
            · exact .inr (by omega)) _ (hi5.out F h1 h2)⟩⟩
    · have HE5 : Hid (R = .error 5) := hidd (by rw [← HR.out]; exact dropOf_split HCB.out hsp)
      clear hsp hb3
      have hKr := HK3.out
      have f0 := hKr.bz.frozen 0
      have f1 := hKr.bz.frozen 1
      have f2 := hKr.bz.frozen 2
      have f3 := hKr.bz.frozen 3
      have y0 := hKr.bz.cell (i := 0) rfl
      have y1 := hKr.bz.cell (i := 1) rfl
      have y2 := hKr.bz.cell (i := 2) rfl
      have y3 := hKr.bz.cell (i := 3) rfl
      have s4 := hKr.bz.four (x0 := .string ⟨#[]⟩) (x1 := .string ⟨#[]⟩) (x2 := .bool false) (x3 := .slice none 0 0)
      have r0 := s4.cell (i := 0) rfl
      have r1 := s4.cell (i := 1) rfl
      have r2 := s4.cell (i := 2) rfl
      have r3 := s4.cell (i := 3) rfl
      have HBF := hidd (hKr.below.trans (((Fr.refl (fun b => b = w.heap.size + 1) _).four (p := w.heap.size + 1) (.inl rfl) (.string ⟨#[]⟩) (.string ⟨#[]⟩) (.bool false) (.slice none 0 0)).below hKr.below.size (fun b e => by omega)))
      clear hKr s4
      go_wp2_with fail
      refine bodyPost_ret (v := .tuple #[nodeZ, .int .i64 5]) ?_ rfl ?_
      · unfold nodeZ
        rw [results_cell_tmp rfl]
        go_simp
      · exact ⟨HBF.out, .inl ⟨5, HE5.out, by decide, by decide, rfl⟩⟩
  · have HE : Hid (R = .error c) := hidd (by rw [← HR.out, ← HCB.out]; exact dropOf_err (by rw [HCB.out]; exact h0))
    have HC0 := hidd h0
    have HBD := hidd hbd
    have p3 : decide ((0 : Int) < (c : Int)) = true := decide_eq_true (by omega)
    have p4 : (0 : Int) < (c : Int) := by omega
    clear h0
    have hKr := HK2.out
    have f0 := hKr.bz.frozen 0
    have f1 := hKr.bz.frozen 1
    have f2 := hKr.bz.frozen 2
    have f3 := hKr.bz.frozen 3
    have y0 := hKr.bz.cell (i := 0) rfl
    have y1 := hKr.bz.cell (i := 1) rfl
    have y2 := hKr.bz.cell (i := 2) rfl
    have y3 := hKr.bz.cell (i := 3) rfl
    have s4 := hKr.bz.four (x0 := .string ⟨#[]⟩) (x1 := .string ⟨#[]⟩) (x2 := .bool false) (x3 := .slice none 0 0)
    have r0 := s4.cell (i := 0) rfl
    have r1 := s4.cell (i := 1) rfl
    have r2 := s4.cell (i := 2) rfl
    have r3 := s4.cell (i := 3) rfl
    have HBF := hidd (hKr.below.trans (((Fr.refl (fun b => b = w.heap.size + 1) _).four (p := w.heap.size + 1) (.inl rfl) (.string ⟨#[]⟩) (.string ⟨#[]⟩) (.bool false) (.slice none 0 0)).below hKr.below.size (fun b e => by omega)))
    clear hKr s4
    go_wp2_with fail
    refine bodyPost_ret (v := .tuple #[nodeZ, .int .i64 (c : Int)]) ?_ rfl ?_
    · unfold nodeZ
      rw [results_cell_tmp rfl]
      go_simp
    · exact ⟨HBF.out, .inl ⟨c, HE.out, HC0.out, HBD.out, rfl⟩⟩
end Go.Proofs.YtbadnmfmncjdjaaGreatDoor

namespace Go.Proofs.YtbadnmfmncjdjaaGreatDoor
open Go.RowKit
theorem joinP_inj {a b : List ByteArray} (ha : a.all isName = true) (hb : b.all isName = true) (h : joinP a = joinP b) : a = b := by
  have key : ∀ l : List ByteArray, l.all isName = true → l ≠ [] → joinP l ≠ joinP [] := by
    intro l hl hne e
    rw [joinP_nil, joinP_cons hne] at e
    cases l with
    | nil => exact hne rfl
    | cons p r =>
      have e1 : (jt (p :: r)).data.toList = [47] := by rw [e]
      rw [jt_data] at e1
      unfold joined at e1
      simp only [List.map_cons, joinL, List.cons.injEq, true_and, List.append_eq_nil_iff] at e1
      have hp : isName p = true := by simpa using (List.all_eq_true.1 hl p (List.mem_cons_self ..))
      have := (name_dots hp).1
      exact this (.inl e1.1)
  by_cases h1 : a = []
  · subst h1
    by_cases h2 : b = []
    · exact h2.symm
    · exact absurd h.symm (key b hb h2)
  · by_cases h2 : b = []
    · subst h2
      exact absurd h (key a ha h1)
    · rw [joinP_cons h1, joinP_cons h2] at h
      have e : joined a = joined b := by rw [← jt_data, ← jt_data, h]
      have pl : ∀ l : List ByteArray, l.all isName = true → ∀ p ∈ l.map (·.data.toList), ∀ c ∈ p, c ≠ 47 := fun l hl p hp => by
        obtain ⟨x, hx, rfl⟩ := List.mem_map.1 hp
        exact isName_plain (List.all_eq_true.1 hl x hx)
      have c1 := cutL_joined (a.map (·.data.toList)) (by simpa using h1) (pl a ha)
      have c2 := cutL_joined (b.map (·.data.toList)) (by simpa using h2) (pl b hb)
      unfold joined at e
      rw [e, c2] at c1
      exact ba_map_inj (List.cons.inj c1).2.symm
section
variable {α : Type}
theorem item_at2 {t : Tr α} (h : treeE t = 0) {l : List ByteArray} (hl : l.all isName = true) {x : It α} (hx : x ∈ itemsOf t) (hp : x.path = joinP l) : atT t l = some x.n := by
  rw [items_R] at hx
  obtain ⟨y, hy, rfl⟩ := List.mem_map.1 hx
  obtain ⟨h1, h2, -⟩ := preR_at t.sz t (Nat.le_refl _) h y hy
  rw [← joinP_inj h2 hl hp]
  exact h1
theorem item_none2 {t : Tr α} {l : List ByteArray} (hx : ∀ x ∈ itemsOf t, x.path ≠ joinP l) : atT t l = none := by
  cases ha : atT t l with
  | none => rfl
  | some y =>
    refine absurd rfl (hx ⟨pathOf (jt l), l.length, y⟩ ?_)
    rw [items_R]
    exact List.mem_map.2 ⟨(l, y), atT_mem ha, rfl⟩
end
theorem link_some {α : Type} {t : Tr α} (h : ownE t = 0) (hk : t.kind = kLink) : 1 ≤ t.data.size := by
  unfold ownE at h
  split at h; omega
  split at h; omega
  split at h; omega
  rename_i h3
  have : ¬ t.data.size = 0 := fun e => h3 (.inr ⟨hk, .inl e⟩)
  omega

set_option maxRecDepth 100000 in
theorem rjoined_any (l : List ByteArray) (v : Value) (w : World) (h : Sl w v (tcells l) l.length 1) (hz : (joined l).length ≤ 100000) :
    Calls Tryz.prog 62 #[v] w fun e w' => e = .returned (.string (joinP l)) ∧ w = w' := by
  obtain ⟨la, lc, rfl, -⟩ := id h
  have hle := h.le
  have HS := hidd h
  have HZ := hidd hz
  clear h hz
  go_enter Tryz.func62, Tryz.ntmps62
  go_wp2_with fail
  go_loop [3, 4] (fun s j => ∃ i : Nat, i ≤ l.length ∧ j = .int .i64 (i : Int) ∧ s = .string (jt (l.take i))) (fun _ j => l.length - (intOf j).toNat)
  case atStart => exact ⟨0, Nat.zero_le _, rfl, rfl⟩
  case round =>
    obtain ⟨i, hi, rfl, rfl⟩ := hrel
    by_cases hlt : i < l.length
    · obtain ⟨b, off, rfl, hb, hc, hcell⟩ := HS.out.at1 hlt
      have hJ := hidd (jt_take hlt)
      have hz1 := Nat.le_trans (joined_take l (i + 1)) HZ.out
      rw [← jt_size, hJ.out, sub_size] at hz1
      obtain ⟨x, hx⟩ : ∃ x, l[i] = x := ⟨_, rfl⟩
      have hcell' : w.cell? ⟨b, off + i, none⟩ = some (.string x) := by rw [hcell]; simp [tcells, hx]
      rw [hx] at hJ hz1
      obtain ⟨P, hP⟩ : ∃ P, jt (l.take i) = P := ⟨_, rfl⟩
      rw [hP] at hJ hz1 ⊢
      have r1 : ¬ (9223372036854775807 < P.size + 1) := by omega
      have r2 : ¬ (9223372036854775807 < P.size + 1 + x.size) := by omega
      have p1 : (0 : Int) ≤ (i : Int) := by omega
      have p2 : (i : Int) < (l.length : Int) := by omega
      clear hc hcell hx hP
      go_wp2_with fail
      go_round
      case rel => exact ⟨i + 1, hlt, by go_num, by rw [hJ.out]; rfl⟩
      case measure => simp [intOf]; omega
    · have hil : i = l.length := by omega
      have HJ : Hid (jt (l.take i) = jt l) := hidd (by rw [hil, List.take_of_length_le (Nat.le_refl _)])
      rw [HJ.out]
      have HF : Hid (joinP l = fixP (jt l)) := hidd (by unfold joinP; exact path_fix (jt_stroke l))
      obtain ⟨P, hP⟩ : ∃ P, jt l = P := ⟨_, rfl⟩
      rw [hP] at HF ⊢
      clear hil HJ hP
      cases hp : (P.toList == [])
      · have HG : Hid (joinP l = P) := hidd (by rw [HF.out, fixP_cons hp])
        go_wp2_with fail
        go_ret
        exact ⟨by rw [HG.out]; rfl, rfl⟩
      · have HG : Hid (joinP l = ⟨#[47]⟩) := hidd (by rw [HF.out, fixP_nil hp])
        have hp' : P.toList = [] := by simpa using hp
        go_wp2_with fail
        go_ret
        exact ⟨by rw [HG.out]; rfl, rfl⟩

/-- What FollowOf gives. -/
def RfoP (t : Lt) (s : ByteArray) (w : World) (e : Ending) (w' : World) : Prop :=
  Below w.heap.size w w' ∧ ((∃ c : Nat, followOf t s = .error c ∧ c ≠ 0 ∧ c ≤ 10 ∧ e = .returned (.tuple #[.string ⟨#[]⟩, .int .i64 (c : Int)])) ∨ (∃ r, followOf t s = .ok r ∧ e = .returned (.tuple #[.string (joinP r), .int .i64 0])))
/-- What holds at the loop's head. -/
structure FrI (w : World) (t : Lt) (R : Except Nat (List ByteArray)) (iv : Value) (lk : Nat) (todo cur : List ByteArray) (tv cv : Value) (W : World) : Prop where
  below : Below w.heap.size w W
  hlk : lk ≤ 16
  run : fol t (16 - lk) todo cur = R
  good : GoodC t cur
  isl : Sl W iv (itcells (itemsOf t)) (itemsOf t).length 6
  tsl : Sl W tv (tcells todo) todo.length 1
  csl : Sl W cv (tcells cur) cur.length 1
  tlen : todo.length ≤ 8 + 41 * lk
  tsz : ∀ x ∈ todo, x.size ≤ 1000000
section
variable {w W W' : World} {t : Lt} {R : Except Nat (List ByteArray)} {iv : Value} {lk : Nat} {todo cur cur2 rest : List ByteArray} {n : ByteArray} {tv cv tv2 cv2 : Value}
theorem FrI.later (h : FrI w t R iv lk todo cur tv cv W) (hb : Below W.heap.size W W') : FrI w t R iv lk todo cur tv cv W' :=
  ⟨h.below.trans (hb.mono h.below.size), h.hlk, h.run, h.good, h.isl.ob hb (Nat.le_refl _), h.tsl.ob hb (Nat.le_refl _), h.csl.ob hb (Nat.le_refl _), h.tlen, h.tsz⟩
theorem FrI.step (h : FrI w t R iv lk (n :: rest) cur tv cv W)
    (hb : Below W.heap.size W W') (hr : fol t (16 - lk) (n :: rest) cur = fol t (16 - lk) rest cur2) (hg : GoodC t cur2) (ht : Sl W' tv2 (tcells rest) rest.length 1) (hc : Sl W' cv2 (tcells cur2) cur2.length 1) : FrI w t R iv lk rest cur2 tv2 cv2 W' :=
  ⟨h.below.trans (hb.mono h.below.size), h.hlk, hr ▸ h.run, hg, h.isl.ob hb (Nat.le_refl _), ht, hc, by have := h.tlen; simp at this; omega, fun x hx => h.tsz x (List.mem_cons_of_mem _ hx)⟩
end
theorem names_bd {l : List ByteArray} (h : l.all isName = true) : ∀ x ∈ l, x.size ≤ 30 := fun x hx => by
  have := List.all_eq_true.1 h x hx
  unfold isName at this
  simp only [Bool.and_eq_true, decide_eq_true_eq] at this
  omega

set_option maxRecDepth 100000 in
set_option maxHeartbeats 40000000 in
theorem rfollow_any (t : Lt) (s : ByteArray) (w : World) (ht : t.Ok w) (hs : s.size ≤ 1000000) :
    Calls Tryz.prog 32 #[nval t, .string s] w (RfoP t s w) := by
  obtain ⟨a, cap, hv⟩ := ht.shape
  obtain ⟨i0, hii, hz0, hz1, hz2⟩ := info_parts infoTx2
  have hB0 : Below w.heap.size w (w.alloc (.cells #[.string t.kind, .string t.data, .bool t.exec, .slice a t.kids.length cap] 24)) := (Below.refl _ _).alloc (Nat.le_refl _) _
  have hbt := Blk.new w [.string t.kind, .string t.data, .bool t.exec, .slice a t.kids.length cap] 24
  have HT := hidd ht
  have HTE := hidd (treeErr_any t _ (ht.ob hB0))
  have HIT := hidd (fun W (h : t.Ok W) (h0 : treeE t = 0) => items_any t W h h0)
  have HAT := hidd (fun l x (h0 : treeE t = 0) (e : atT t l = some x) => (⟨atT_right h0 e, atT_ok ht e⟩ : treeE x = 0 ∧ x.Ok w))
  unfold nval at HTE HIT ⊢
  rw [hv] at HTE HIT ⊢
  have HB0 := hidd hB0
  have HBT := hidd hbt
  have x0 := hbt.cell (i := 0) rfl
  have x1 := hbt.cell (i := 1) rfl
  have x2 := hbt.cell (i := 2) rfl
  have x3 := hbt.cell (i := 3) rfl
  have hbd : treeE t ≤ 10 := scan_bd _ 0
  obtain ⟨c, hc⟩ : ∃ c, treeE t = c := ⟨_, rfl⟩
  rw [hc] at hbd
  have HC := hidd hc
  clear hbt ht hc hv hB0
  go_enter Tryz.func32, Tryz.ntmps32
  go_wp2_with fail
  refine HTE.out.mono ?_
  rintro e w2 ⟨rfl, hb2⟩
  rw [HC.out]
  have HB2 := hidd (HB0.out.trans (hb2.mono HB0.out.size))
  have HBT2 := hidd (HBT.out.below hb2 HBT.out.lt)
  clear x0 x1 x2 x3 hb2 HTE
  by_cases h0 : c = 0
  · subst h0
    have HSP := hidd (rsplit_any s w2 hs)
    clear hbd
    go_wp2_with fail
    refine HSP.out.mono ?_
    rintro e w3 ⟨hb3, hr⟩
    have HB3 := hidd (HB2.out.trans (hb3.mono HB2.out.size))
    have HBT3 := hidd (HBT2.out.below hb3 HBT2.out.lt)
    rcases hr with ⟨l, v, hsp, rfl, hsl⟩ | ⟨hsp, rfl⟩
    · obtain ⟨la, lc, rfl, -⟩ := id hsl
      have HSL := hidd hsl
      have hR := follow_some HC.out hsp
      have hnm := splitOf_names hsp
      obtain ⟨R, hRR⟩ : ∃ R, fol t 16 l [] = R := ⟨_, rfl⟩
      have HF : Hid (followOf t s = R) := hidd (hR.trans hRR)
      have HRR := hidd hRR
      have HNM := hidd hnm
      have x0 := HBT3.out.cell (i := 0) rfl
      have x1 := HBT3.out.cell (i := 1) rfl
      have x2 := HBT3.out.cell (i := 2) rfl
      have x3 := HBT3.out.cell (i := 3) rfl
      clear hsp hsl hb3 hR hRR hnm
      go_wp2_with fail
      refine (HIT.out _ (HT.out.ob HB3.out) HC.out).mono ?_
      rintro e w4 ⟨v4, rfl, ho4, hb4⟩
      obtain ⟨a4, c4, rfl⟩ := ho4.shape
      have hI : FrI w t R (.slice a4 (itemsOf t).length c4) 0 l [] (.slice la l.length lc) (.slice none 0 0) w4 :=
        ⟨HB3.out.trans (hb4.mono HB3.out.size), Nat.zero_le _, HRR.out, GoodC.nil t, ho4.sl, HSL.out.ob hb4 (Nat.le_refl _), Sl.nil _ _, by have := HNM.out.1; omega, fun x hx => by
          have := names_bd HNM.out.2 x hx
          omega⟩
      have hle := ho4.sl.le
      obtain ⟨m4, hm4⟩ : ∃ m, (itemsOf t).length = m := ⟨_, rfl⟩
      have HM4 := hidd hm4
      rw [hm4] at hI hle ⊢
      clear x0 x1 x2 x3 ho4 hb4 hm4
      go_wp2_with fail
      go_loopw [7, 9, 10, 11, 12, 13, 14, 15, 16] (fun tv cv lv _ _ _ _ _ _ wr => ∃ (lk : Nat) (todo cur : List ByteArray), lv = .int .i64 (lk : Int) ∧ FrI w t R (.slice a4 m4 c4) lk todo cur tv cv wr) (fun tv _ lv _ _ _ _ _ _ _ => (17 - (intOf lv).toNat) * 1000 + slLen tv)
      case atStart => exact ⟨0, l, [], rfl, hI⟩
      case round =>
        obtain ⟨lk, todo, cur, rfl, hI⟩ := hrel
        have hlk := hI.hlk
        have htl := hI.tlen
        have hg := hI.good
        have hcl := good_len HC.out hg
        obtain ⟨ta, tcap, rfl, -⟩ := id hI.tsl
        obtain ⟨ca, ccap, rfl, -⟩ := id hI.csl
        cases todo with
        | nil =>
          have HF2 : Hid (followOf t s = .ok cur) := hidd (by
            have := hI.run
            rw [fol_nil] at this
            rw [HF.out, ← this])
          have HJ := hidd (rjoined_any cur _ wr hI.csl (by
            have := joined_bd (names_bd hg.1)
            omega))
          have HBw := hidd hI.below
          simp only [List.length_nil]
          clear hI hg
          go_wp2_with fail
          refine HJ.out.mono ?_
          rintro e w9 ⟨rfl, rfl⟩
          go_wp2_with fail
          go_ret2
          exact ⟨HBw.out, .inr ⟨cur, HF2.out, rfl⟩⟩
        | cons n rest =>
          obtain ⟨b, off, rfl, hb, hc, -⟩ := hI.tsl.at1 (i := 0) (by simp)
          obtain ⟨-, hcell, htail, hempty⟩ := hI.tsl.tail
          have hnz := hI.tsz n (List.mem_cons_self ..)
          simp only [List.length_cons] at *
          have p0 : (0 : Int) < ((rest.length + 1 : Nat) : Int) := by omega
          clear hc
          have hA2s : Sl wr (.slice (if tcap = 1 then some (⟨b, off, none⟩ : Addr) else some ⟨b, off + 1, none⟩) rest.length (tcap - 1)) (tcells rest) rest.length 1 := by
            by_cases hc1 : tcap = 1
            · have hr0 : rest = [] := by
                obtain ⟨_, _, he, _, h2, _⟩ := hI.tsl
                simp only [Value.slice.injEq] at he
                exact List.eq_nil_of_length_eq_zero (by omega)
              rw [if_pos hc1, hr0]
              have := hempty hr0 (some ⟨b, off, none⟩) (tcap - 1) (by unfold maxLen; omega)
              rw [hr0] at this
              exact this
            · rw [if_neg hc1]; exact htail
          obtain ⟨A2, hA2⟩ : ∃ A2, (if tcap = 1 then some (⟨b, off, none⟩ : Addr) else some ⟨b, off + 1, none⟩) = A2 := ⟨_, rfl⟩
          rw [hA2] at hA2s
          go_upto_region 13 with fail
          clear hA2 htail hempty hcell
          have HI := hidd hI
          have HA2 := hidd hA2s
          have HG := hidd hg
          clear hI hA2s hg
          by_cases h1 : n.data.toList = [] ∨ n.data.toList = [46]
          · have HN := hidd (HI.out.step (Below.refl _ _) (fol_dot h1) HG.out HA2.out HI.out.csl)
            rcases h1 with h1 | h1
            · have z2 : n.toList = [] := by rw [Lib.toList_data]; exact h1
              clear h1
              go_wp2_with fail
              go_roundw
              case rel => exact ⟨lk, rest, cur, rfl, HN.out⟩
              case measure => simp [slLen, intOf]
            · have z2 : (n.toList == []) = false := by rw [Lib.toList_data, h1]; rfl
              have z3 : (n.toList == [46]) = true := by rw [Lib.toList_data, h1]; rfl
              clear h1
              go_wp2_with fail
              go_roundw
              case rel => exact ⟨lk, rest, cur, rfl, HN.out⟩
              case measure => simp [slLen, intOf]
          have z2 : (n.toList == []) = false := by
            rw [Lib.toList_data]
            cases hq : (n.data.toList == []) with
            | false => rfl
            | true => exact absurd (.inl (by simpa using hq)) h1
          have z3 : (n.toList == [46]) = false := by
            rw [Lib.toList_data]
            cases hq : (n.data.toList == [46]) with
            | false => rfl
            | true => exact absurd (.inr (by simpa using hq)) h1
          by_cases h2 : n.data.toList = [46, 46]
          · have z4 : (n.toList == [46, 46]) = true := by rw [Lib.toList_data, h2]; rfl
            have HDL : Hid (cur.dropLast = cur.take (cur.length - 1)) := hidd (List.dropLast_eq_take)
            have HN := hidd (HI.out.step (Below.refl _ _) (fol_up h2) (HG.out.up HC.out) HA2.out (by
              have := HI.out.csl.front (cur.length - 1) (by omega)
              rw [← HDL.out] at this
              exact this))
            by_cases hc0 : cur.length = 0
            · obtain rfl : cur = [] := List.eq_nil_of_length_eq_zero hc0
              have HN2 := hidd (HI.out.step (Below.refl _ _) (fol_up h2) (HG.out.up HC.out) HA2.out HI.out.csl)
              clear h1 h2 hc0 HN
              go_wp2_with fail
              go_roundw
              case rel => exact ⟨lk, rest, [], rfl, HN2.out⟩
              case measure => simp [slLen, intOf]
            · obtain ⟨m, hm⟩ : ∃ m, cur.length = m + 1 := ⟨cur.length - 1, by omega⟩
              have hm1 : cur.length - 1 = m := by omega
              rw [hm1] at HN
              have pc1 : m + 1 ≤ ccap := by
                obtain ⟨_, _, he, _, h3, _⟩ := HI.out.csl
                simp only [Value.slice.injEq] at he
                omega
              have pc2 : (m : Int) ≤ (ccap : Int) := by omega
              have pc3 : (0 : Int) ≤ (m : Int) := by omega
              have pc4 : decide ((0 : Int) < (m : Int) + 1) = true := decide_eq_true (by omega)
              have pc5 : (0 : Int) < (m : Int) + 1 := by omega
              rw [hm]
              clear h1 h2 hc0 hm1
              go_wp2_with fail
              go_roundw
              case rel => exact ⟨lk, rest, cur.dropLast, rfl, HN.out⟩
              case measure => simp [slLen, intOf]
          have z4 : (n.toList == [46, 46]) = false := by
            rw [Lib.toList_data]
            cases hq : (n.data.toList == [46, 46]) with
            | false => rfl
            | true => exact absurd (by simpa using hq) h2
          have HNM := hidd (isName_any n wr (by omega))
          cases h3 : isName n
          · rw [h3] at HNM
            have HF2 : Hid (followOf t s = .error 5) := hidd (by
              have := HI.out.run
              rw [fol_bad h1 h2 h3] at this
              rw [HF.out, ← this])
            clear h1 h2 h3
            go_wp2_with fail
            refine HNM.out.mono ?_
            rintro e w9 ⟨rfl, rfl⟩
            go_wp2_with fail
            go_ret2
            exact ⟨HI.out.below, .inl ⟨5, HF2.out, by decide, by decide, rfl⟩⟩
          · rw [h3] at HNM
            have hs0 := Src.sl (P := Tryz.prog) (tx := 52) Tryz.underlying52 HI.out.csl (one_tcells cur)
            obtain ⟨m, hm⟩ : ∃ m, cur.length = m := ⟨_, rfl⟩
            have HM := hidd hm
            obtain ⟨TC, hTC⟩ : ∃ TC, tcells cur = TC := ⟨_, rfl⟩
            have HTC := hidd hTC
            rw [hm, hTC] at hs0
            rw [hm]
            clear h1 h2 hm hTC
            go_wp2_with fail
            refine HNM.out.mono ?_
            rintro e w9 ⟨rfl, rfl⟩
            go_wp2_with (at_builtin; refine wpList_append_ow _ rfl _ _ 52 52 rfl (fun g => wr.heap.size ≤ g) ?cF 9 i0 _ 1 16 Tryz.underlying52 hii hz0 hz1 hz2 rfl (by decide) _ _ _ rfl (Ow.nil _ _ _ _) _ _ _ rfl hs0 ?c3 ?c4 ?_)
            case cF => intro g hg; exact hg
            case c3 => have := HM.out; unfold maxLen; omega
            case c4 => have := HM.out; omega
            intro v4 w5 ho5 hg5
            have ho5 : Ow (fun g => wr.heap.size ≤ g) w5 9 1 v4 m TC := by simpa using ho5
            have hb5 : Below wr.heap.size wr w5 := (Below.refl _ wr).grown hg5 (Nat.le_refl _) (fun k hk => by simp [Value.ownBlock] at hk)
            obtain ⟨va4, vc4, rfl⟩ := ho5.shape
            have hbo := ho5.blk
            have hs1 := Src.new (P := Tryz.prog) (size := 1) (tx := 52) Tryz.underlying52 w5 w5.heap.size rfl [.string n] 9 rfl (by intro u hu; simp at hu; subst hu; rfl) 1
            have hwz := hb5.size
            clear hs0 hg5
            go_wp2_with (at_builtin; refine wpList_append_ow _ rfl _ _ 52 52 rfl (fun g => wr.heap.size ≤ g) ?cG 9 i0 _ 1 16 Tryz.underlying52 hii hz0 hz1 hz2 rfl (by decide) _ _ _ rfl (ho5.alloc _) _ _ _ rfl hs1 ?c5 ?c6 ?_)
            case cG => intro g hg; simp at hg; omega
            case c5 => have := HM.out; unfold maxLen; omega
            case c6 => have := HM.out; omega
            intro v6 w6 ho6 hg6
            have hb6 : Below wr.heap.size wr w6 := (hb5.alloc hb5.size (.cells #[.string n] 9)).grown hg6 (by simp; omega) (fun k hk => (hbo k hk).1)
            have hn6 : Sl w6 v6 (tcells (cur ++ [n])) (cur ++ [n]).length 1 := by
              have := ho6.sl
              rw [show tcells (cur ++ [n]) = TC ++ [.string n] by rw [← HTC.out]; simp [tcells], show (cur ++ [n]).length = m + 1 by rw [List.length_append, HM.out]; rfl]
              exact this
            obtain ⟨va6, vc6, rfl⟩ := ho6.shape
            have HI6 := hidd (HI.out.later hb6)
            have HA6 := hidd (HA2.out.ob hb6 (Nat.le_refl _))
            have HALL : Hid ((cur ++ [n]).all isName = true) := hidd (by rw [List.all_append, HG.out.1]; simp [h3])
            have HJ := hidd (rjoined_any (cur ++ [n]) _ w6 hn6 (by
              have h1 := joined_bd (names_bd HALL.out)
              have h2 : (cur ++ [n]).length = cur.length + 1 := by simp
              omega))
            have HSL6 : Hid (Sl w6 (.slice a4 (itemsOf t).length c4) (itcells (itemsOf t)) (itemsOf t).length 6) := hidd (by have := HI6.out.isl; rw [← HM4.out] at this; rw [HM4.out] at this ⊢; exact this)
            have HFD := hidd (find_any (itemsOf t) a4 c4 (joinP (cur ++ [n])) w6 HSL6.out)
            rw [HM4.out] at HFD
            have HIL := hidd (fun x (hx : x ∈ itemsOf t) (hp : x.path = joinP (cur ++ [n])) => item_at2 HC.out HALL.out hx hp)
            have HIN := hidd (fun (hx : ∀ x ∈ itemsOf t, x.path ≠ joinP (cur ++ [n])) => item_none2 hx)
            have HN6 := hidd hn6
            obtain ⟨J, hJ⟩ : ∃ J, joinP (cur ++ [n]) = J := ⟨_, rfl⟩
            rw [hJ] at HJ HFD HIL HIN
            clear hn6 ho6 hg6 hs1 hbo ho5 hb5 hb6 hJ hwz HI HA2
            go_wp2_with fail
            refine HJ.out.mono ?_
            rintro e w7 ⟨rfl, rfl⟩
            go_wp2_with fail
            refine HFD.out.mono ?_
            rintro e w7 ⟨rfl, hr⟩
            rcases hr with ⟨i, hi, hp, rfl⟩ | ⟨hx, rfl⟩
            · have hx := HIL.out _ (List.getElem_mem hi) hp
              obtain ⟨hx0, hxo⟩ := HAT.out _ _ HC.out hx
              obtain ⟨b6, off6, rfl, hb6, c0, c1, c2, c3, c4', c5⟩ := sl_at6 HSL6.out hi
              have p1 : (0 : Int) ≤ (i : Int) := by omega
              have p2 : (i : Int) < (m4 : Int) := by have := HM4.out; omega
              have p3 : ¬ ((i : Int) < 0) := by omega
              obtain ⟨x, hxx⟩ : ∃ x, (itemsOf t)[i].n = x := ⟨_, rfl⟩
              rw [hxx] at c2 c3 c4' c5 hx0 hxo hx
              obtain ⟨xa', xc', hxv⟩ := hxo.shape
              obtain ⟨kx, dx, ex, vx, ksx⟩ := x
              simp only [Tr.v, Tr.kids, Tr.kind, Tr.data, Tr.exec] at hxv c2 c3 c4' c5
              subst hxv
              have hq := Blk.new w6 [.string kx, .string dx, .bool ex, .slice xa' ksx.length xc'] 24
              have hBa : Below w6.heap.size w6 (w6.alloc (.cells #[.string kx, .string dx, .bool ex, .slice xa' ksx.length xc'] 24)) := (Below.refl _ _).alloc (Nat.le_refl _) _
              have HI7 := hidd (HI6.out.later hBa)
              have HA7 := hidd (HA6.out.ob hBa (Nat.le_refl _))
              have HN7 := hidd (HN6.out.ob hBa (Nat.le_refl _))
              have y0 := hq.cell (i := 0) rfl
              have y1 := hq.cell (i := 1) rfl
              have HX := hidd hx
              have HX0 := hidd hx0
              clear c0 c1 hxx hx hx0 hxo hp hBa HFD HJ HIL HIN
              by_cases hl : kx = kLink
              · have q1 : (kx.toList == [108, 105, 110, 107]) = true := by rw [hl, Lib.toList_data]; rfl
                have hdz : dx.size ≤ 40 := link_size (treeE_own HX0.out).1 hl
                have hd1 : 1 ≤ dx.size := link_some (treeE_own HX0.out).1 hl
                by_cases h16 : lk = 16
                · subst h16
                  have HF2 : Hid (followOf t s = .error 9) := hidd (by
                    have := HI6.out.run
                    rw [show 16 - 16 = 0 from rfl, fol_last h3 HX.out hl] at this
                    rw [HF.out, ← this])
                  clear hl hq
                  go_wp2_with fail
                  go_ret2
                  exact ⟨HI7.out.below, .inl ⟨9, HF2.out, by decide, by decide, rfl⟩⟩
                · have d16 : decide ((16 : Int) < (lk : Int) + 1) = false := decide_eq_false (by omega)
                  have d16' : ¬ ((16 : Int) < (lk : Int) + 1) := by omega
                  have hrun : fol t (16 - lk) (n :: rest) cur = fol t (16 - (lk + 1)) (pieces dx ++ rest) (if dx.data.toList.head? = some 47 then [] else cur) := by
                    rw [show 16 - lk = (16 - (lk + 1)) + 1 by omega]
                    exact fol_link h3 HX.out hl
                  have HRUN := hidd (hrun.symm.trans HI6.out.run)
                  clear hl hrun
                  have hd0 : 0 < dx.size := hd1
                  have hhead : dx.data.toList.head? = some (dx[0]'hd0) := by
                    have hlen : 0 < dx.data.toList.length := by simpa using hd0
                    rw [List.head?_eq_getElem?, List.getElem?_eq_getElem hlen]; rfl
                  have HH := hidd hhead
                  have hpl := pieces_le dx
                  obtain ⟨mp, hmp⟩ : ∃ m, (pieces dx).length = m := ⟨_, rfl⟩
                  obtain ⟨TP, hTP⟩ : ∃ TP, tcells (pieces dx) = TP := ⟨_, rfl⟩
                  obtain ⟨TR, hTR⟩ : ∃ TR, tcells rest = TR := ⟨_, rfl⟩
                  have HMP := hidd hmp
                  have HTP := hidd hTP
                  have HTR := hidd hTR
                  rw [hmp] at hpl
                  clear hmp hTP hTR hhead
                  go_upto_region 32 with fail
                  generalize w6.alloc (.cells #[.string kx, .string dx, .bool ex, .slice xa' ksx.length xc'] 24) = w7 at *
                  have HCUT := hidd (cut_any dx w7 (by omega))
                  by_cases hc47 : dx[0]'hd0 = 47
                  · have q47 : ((dx[0].toNat : Int) == 47) = true := by rw [hc47]; rfl
                    have HIF : Hid ((if dx.data.toList.head? = some 47 then [] else cur) = []) := hidd (if_pos (by rw [HH.out, hc47]))
                    clear hc47 hq
                    go_wp2_with fail
                    refine HCUT.out.mono ?_
                    rintro e w8 ⟨v8, rfl, ho8, hb8⟩
                    have hs2 := Src.sl (P := Tryz.prog) (tx := 52) Tryz.underlying52 ho8.sl (one_tcells (pieces dx))
                    have hw8 := hb8.size
                    rw [HMP.out, HTP.out] at hs2
                    rw [HMP.out, HTP.out] at ho8
                    obtain ⟨va8, vc8, rfl⟩ := ho8.shape
                    clear ho8
                    go_wp2_with (at_builtin; refine wpList_append_ow _ rfl _ _ 52 52 rfl (fun g => w7.heap.size ≤ g) ?d1 9 i0 _ 1 16 Tryz.underlying52 hii hz0 hz1 hz2 rfl (by decide) _ _ _ rfl (Ow.nil _ _ _ _) _ _ _ rfl hs2 ?d2 ?d3 ?_)
                    case d1 => intro g hg; exact Nat.le_trans hw8 hg
                    case d2 => unfold maxLen; omega
                    case d3 => omega
                    intro v9 w9 ho9 hg9
                    have ho9 : Ow (fun g => w7.heap.size ≤ g) w9 9 1 v9 mp TP := by simpa using ho9
                    obtain ⟨va9, vc9, rfl⟩ := ho9.shape
                    have hb9 : Below w7.heap.size w7 w9 := hb8.grown hg9 hb8.size (fun k hk => by simp [Value.ownBlock] at hk)
                    have hw9 := hb9.size
                    have hbo9 := ho9.blk
                    have hs3 := Src.sl (P := Tryz.prog) (tx := 52) Tryz.underlying52 (HA7.out.ob hb9 (Nat.le_refl _)) (one_tcells rest)
                    rw [HTR.out] at hs3
                    clear hs2 hg9
                    go_wp2_with (at_builtin; refine wpList_append_ow _ rfl _ _ 52 52 rfl (fun g => w7.heap.size ≤ g) ?e1 9 i0 _ 1 16 Tryz.underlying52 hii hz0 hz1 hz2 rfl (by decide) _ _ _ rfl ho9 _ _ _ rfl hs3 ?e2 ?e3 ?_)
                    case e1 => intro g hg; exact Nat.le_trans hw9 hg
                    case e2 => unfold maxLen; omega
                    case e3 => omega
                    intro v10 w10 ho10 hg10
                    obtain ⟨va10, vc10, rfl⟩ := ho10.shape
                    have hb10 : Below w7.heap.size w7 w10 := hb9.grown hg10 hw9 (fun k hk => (hbo9 k hk).1)
                    have hlen10 : (pieces dx ++ rest).length = mp + rest.length := by rw [List.length_append, HMP.out]
                    have HN10 : Hid (FrI w t R (.slice (some ⟨b6, off6, none⟩) m4 c4) (lk + 1) (pieces dx ++ rest) [] (.slice va10 (mp + rest.length) vc10) (.slice none 0 0) w10) := hidd ⟨HI7.out.below.trans (hb10.mono HI7.out.below.size), by omega, by have := HRUN.out; rw [HIF.out] at this; exact this, GoodC.nil t, HI7.out.isl.ob hb10 (Nat.le_refl _), by
                        have := ho10.sl
                        rw [hlen10, show tcells (pieces dx ++ rest) = TP ++ TR by rw [← HTP.out, ← HTR.out]; simp [tcells]]
                        exact this, Sl.nil _ _, by rw [hlen10]; omega, fun x hx => by
                        rcases List.mem_append.1 hx with h | h
                        · have := pieces_size h; omega
                        · exact HI7.out.tsz x (List.mem_cons_of_mem _ h)⟩
                    clear ho10 hg10 hs3 hbo9 ho9 hb9 hb8
                    go_wp2_with fail
                    go_roundw
                    case rel => exact ⟨lk + 1, pieces dx ++ rest, [], by go_num, HN10.out⟩
                    case measure => simp [slLen, intOf]; omega
                  · have q47 : ((dx[0].toNat : Int) == 47) = false := by
                      have : dx[0].toNat ≠ 47 := fun e => hc47 (UInt8.toNat_inj.1 (by simpa using e))
                      simp; omega
                    have HIF : Hid ((if dx.data.toList.head? = some 47 then [] else cur) = cur) := hidd (if_neg (fun h => by rw [HH.out] at h; exact hc47 (Option.some.inj h)))
                    clear hc47 hq
                    go_wp2_with fail
                    refine HCUT.out.mono ?_
                    rintro e w8 ⟨v8, rfl, ho8, hb8⟩
                    have hs2 := Src.sl (P := Tryz.prog) (tx := 52) Tryz.underlying52 ho8.sl (one_tcells (pieces dx))
                    have hw8 := hb8.size
                    rw [HMP.out, HTP.out] at hs2
                    rw [HMP.out, HTP.out] at ho8
                    obtain ⟨va8, vc8, rfl⟩ := ho8.shape
                    clear ho8
                    go_wp2_with (at_builtin; refine wpList_append_ow _ rfl _ _ 52 52 rfl (fun g => w7.heap.size ≤ g) ?d1 9 i0 _ 1 16 Tryz.underlying52 hii hz0 hz1 hz2 rfl (by decide) _ _ _ rfl (Ow.nil _ _ _ _) _ _ _ rfl hs2 ?d2 ?d3 ?_)
                    case d1 => intro g hg; exact Nat.le_trans hw8 hg
                    case d2 => unfold maxLen; omega
                    case d3 => omega
                    intro v9 w9 ho9 hg9
                    have ho9 : Ow (fun g => w7.heap.size ≤ g) w9 9 1 v9 mp TP := by simpa using ho9
                    obtain ⟨va9, vc9, rfl⟩ := ho9.shape
                    have hb9 : Below w7.heap.size w7 w9 := hb8.grown hg9 hb8.size (fun k hk => by simp [Value.ownBlock] at hk)
                    have hw9 := hb9.size
                    have hbo9 := ho9.blk
                    have hs3 := Src.sl (P := Tryz.prog) (tx := 52) Tryz.underlying52 (HA7.out.ob hb9 (Nat.le_refl _)) (one_tcells rest)
                    rw [HTR.out] at hs3
                    clear hs2 hg9
                    go_wp2_with (at_builtin; refine wpList_append_ow _ rfl _ _ 52 52 rfl (fun g => w7.heap.size ≤ g) ?e1 9 i0 _ 1 16 Tryz.underlying52 hii hz0 hz1 hz2 rfl (by decide) _ _ _ rfl ho9 _ _ _ rfl hs3 ?e2 ?e3 ?_)
                    case e1 => intro g hg; exact Nat.le_trans hw9 hg
                    case e2 => unfold maxLen; omega
                    case e3 => omega
                    intro v10 w10 ho10 hg10
                    obtain ⟨va10, vc10, rfl⟩ := ho10.shape
                    have hb10 : Below w7.heap.size w7 w10 := hb9.grown hg10 hw9 (fun k hk => (hbo9 k hk).1)
                    have hlen10 : (pieces dx ++ rest).length = mp + rest.length := by rw [List.length_append, HMP.out]
                    have HN10 : Hid (FrI w t R (.slice (some ⟨b6, off6, none⟩) m4 c4) (lk + 1) (pieces dx ++ rest) cur (.slice va10 (mp + rest.length) vc10) (.slice ca m ccap) w10) := hidd ⟨HI7.out.below.trans (hb10.mono HI7.out.below.size), by omega, by have := HRUN.out; rw [HIF.out] at this; exact this, HG.out, HI7.out.isl.ob hb10 (Nat.le_refl _), by
                        have := ho10.sl
                        rw [hlen10, show tcells (pieces dx ++ rest) = TP ++ TR by rw [← HTP.out, ← HTR.out]; simp [tcells]]
                        exact this, (by have := HI7.out.csl.ob hb10 (Nat.le_refl _); rw [HM.out] at this ⊢; exact this), by rw [hlen10]; omega, fun x hx => by
                        rcases List.mem_append.1 hx with h | h
                        · have := pieces_size h; omega
                        · exact HI7.out.tsz x (List.mem_cons_of_mem _ h)⟩
                    clear ho10 hg10 hs3 hbo9 ho9 hb9 hb8
                    go_wp2_with fail
                    go_roundw
                    case rel => exact ⟨lk + 1, pieces dx ++ rest, cur, by go_num, HN10.out⟩
                    case measure => simp [slLen, intOf]; omega
              · have q1 : (kx.toList == [108, 105, 110, 107]) = false := by rw [show ([108, 105, 110, 107] : List UInt8) = kLink.toList by rw [Lib.toList_data]; rfl]; exact beq_str hl
                have HN9 : Hid (FrI w t R (.slice (some ⟨b6, off6, none⟩) m4 c4) lk rest (cur ++ [n]) (.slice A2 rest.length (tcap - 1)) (.slice va6 (m + 1) vc6) (w6.alloc (.cells #[.string kx, .string dx, .bool ex, .slice xa' ksx.length xc'] 24))) :=
                  hidd (HI7.out.step (Below.refl _ _) (fol_go h3 HX.out hl) (HG.out.add h3 HX.out hl) HA7.out HN7.out)
                clear hq hl
                go_wp2_with fail
                go_roundw
                case rel => exact ⟨lk, rest, cur ++ [n], rfl, HN9.out⟩
                case measure => simp [slLen, intOf]
            · have hx' := HIN.out hx
              have HF2 : Hid (followOf t s = .error 6) := hidd (by
                have := HI6.out.run
                rw [fol_none h3 hx'] at this
                rw [HF.out, ← this])
              clear hx hx'
              go_wp2_with fail
              go_ret2
              exact ⟨HI6.out.below, .inl ⟨6, HF2.out, by decide, by decide, rfl⟩⟩
    · have HF2 : Hid (followOf t s = .error 5) := hidd (follow_split HC.out hsp)
      clear hsp
      go_wp2_with fail
      go_ret2
      exact ⟨HB3.out, .inl ⟨5, HF2.out, by decide, by decide, rfl⟩⟩
  · have HF2 : Hid (followOf t s = .error c) := hidd (by
      rw [← HC.out]
      unfold followOf
      rw [if_neg (by rw [HC.out]; exact h0)])
    have HC0 := hidd h0
    have HBD := hidd hbd
    have p3 : decide ((0 : Int) < (c : Int)) = true := decide_eq_true (by omega)
    have p4 : (0 : Int) < (c : Int) := by omega
    clear h0
    go_wp2_with fail
    go_ret2
    exact ⟨HB2.out, .inl ⟨c, HF2.out, HC0.out, HBD.out, rfl⟩⟩
end Go.Proofs.YtbadnmfmncjdjaaGreatDoor

namespace Go.Proofs.YtbadnmfmncjdjaaGreatDoor
open Go.RowKit Go.Shelf

/-- A tree and an error's number of what was asked. -/
def RV (R : Except Nat Nd) (Y : Nd) (c : Nat) : Prop := (R = .error c ∧ c ≠ 0 ∧ Y = LtZ.bare) ∨ (R = .ok Y ∧ c = 0)
theorem RV.uniq {R : Except Nat Nd} {Y Z : Nd} {c d : Nat} (h : RV R Y c) (k : RV R Z d) : Y = Z ∧ c = d := by
  rcases h with ⟨h1, h2, h3⟩ | ⟨h1, h2⟩
  · rcases k with ⟨k1, -, k3⟩ | ⟨k1, -⟩
    · rw [h1] at k1; exact ⟨h3.trans k3.symm, Except.error.inj k1⟩
    · rw [h1] at k1; cases k1
  · rcases k with ⟨k1, -⟩ | ⟨k1, k2⟩
    · rw [h1] at k1; cases k1
    · rw [h1] at k1; exact ⟨Except.ok.inj k1, h2.trans k2.symm⟩
/-- A tree that a call gives, its kids' slice in sight, with an error's number. -/
def TwoP (ev : Nat → Value) (R : Except Nat Nd) (P : Lt → Prop) (w : World) (e : Ending) (w' : World) : Prop :=
  ∃ (ky dy : ByteArray) (ey : Bool) (ya : Option Addr) (yc : Nat) (ksy : List (ByteArray × Lt)) (c : Nat), e = .returned (.tuple #[.agg #[.string ky, .string dy, .bool ey, .slice ya ksy.length yc], ev c]) ∧ Below w.heap.size w w' ∧ c ≤ 10 ∧
    Hid ((Tr.mk ky dy ey (.slice ya ksy.length yc) ksy : Lt).Ok w') ∧ Hid (P (Tr.mk ky dy ey (.slice ya ksy.length yc) ksy)) ∧ Hid (RV R (Tr.mk ky dy ey (.slice ya ksy.length yc) ksy : Lt).bare c)
theorem two_zero {ev : Nat → Value} {R : Except Nat Nd} {P : Lt → Prop} {w w' : World} {c : Nat} (h : R = .error c) (h0 : c ≠ 0) (h1 : c ≤ 10) (hb : Below w.heap.size w w') (hp : P LtZ) : TwoP ev R P w (.returned (.tuple #[nodeZ, ev c])) w' :=
  ⟨⟨#[]⟩, ⟨#[]⟩, false, none, 0, [], c, rfl, hb, h1, ltZ_ok w', hp, .inl ⟨h, h0, rfl⟩⟩
theorem two_tree {ev : Nat → Value} {R : Except Nat Nd} {P : Lt → Prop} {w w' : World} {y : Lt} (h : R = .ok y.bare) (ho : y.Ok w') (hb : Below w.heap.size w w') (hp : P y) : TwoP ev R P w (.returned (.tuple #[nval y, ev 0])) w' := by
  obtain ⟨ya, yc, hyv⟩ := ho.shape
  obtain ⟨ky, dy, ey, vy, ksy⟩ := y
  simp only [Tr.v, Tr.kids] at hyv
  subst hyv
  exact ⟨ky, dy, ey, ya, yc, ksy, 0, rfl, hb, Nat.zero_le _, ho, hp, .inr ⟨h, rfl⟩⟩
theorem MadeP.two {E : Nat → Addr} {R : Except Nat Nd} {w w' : World} {e : Ending} (h : MadeP E R w e w') : TwoP (evc E) R (fun y => y.In (fun b => w.heap.size ≤ b)) w e w' := by
  obtain ⟨hb, ⟨c, hc, hc0, h1, rfl⟩ | ⟨y, hy, rfl, ho, hi⟩⟩ := h
  · exact two_zero hc hc0 h1 hb (ltZ_in _)
  · exact two_tree hy ho hb (in_mono (fun b hb => hb.1) y hi)
theorem GetP.two {E : Nat → Addr} {t : Lt} {s : ByteArray} {w w' : World} {e : Ending} (h : GetP E t s w e w') : TwoP (evc E) (getOf t.bare s) (fun _ => True) w e w' := by
  obtain ⟨hb, ⟨c, hc, hc0, h1, rfl⟩ | ⟨x, y, hx, -, rfl, hbr, ho, -⟩⟩ := h
  · exact two_zero (by unfold Tr.bare; rw [getOf_map, hc]; rfl) hc0 h1 hb trivial
  · exact two_tree (by rw [hbr]; unfold Tr.bare; rw [getOf_map, hx]; rfl) ho hb trivial
/-- An error's number as a value. -/
def numV (c : Nat) : Value := .int .i64 (c : Int)
theorem RgP.two {t : Lt} {s : ByteArray} {w w' : World} {e : Ending} (h : RgP t s w e w') : TwoP numV (getOf t.bare s) (fun _ => True) w e w' := by
  obtain ⟨hb, ⟨c, hc, hc0, h1, rfl⟩ | ⟨y, hy, -, rfl, ho⟩⟩ := h
  · exact two_zero (by unfold Tr.bare; rw [getOf_map, hc]; rfl) hc0 h1 hb trivial
  · exact two_tree (by unfold Tr.bare; rw [getOf_map, hy]; rfl) ho hb trivial
theorem RpP.two {t x : Lt} {R : Except Nat Nd} {w w' : World} {e : Ending} (h : RpP t x R w e w') : TwoP numV R (fun y => ∀ F : Nat → Prop, t.In F → x.In F → y.In (fun b => F b ∨ w.heap.size ≤ b)) w e w' := by
  obtain ⟨hb, ⟨c, hc, hc0, h1, rfl⟩ | ⟨y, hy, rfl, ho, hi⟩⟩ := h
  · exact two_zero hc hc0 h1 hb (fun _ _ _ => ltZ_in _)
  · exact two_tree hy ho hb hi

section
variable {α β : Type}
theorem fol_map (f : α → β) (t : Tr α) : ∀ (k : Nat) (todo cur : List ByteArray), fol (t.map f) k todo cur = fol t k todo cur
  | k, [], cur => by rw [fol_nil, fol_nil]
  | k, n :: todo, cur => by
    by_cases h1 : n.data.toList = [] ∨ n.data.toList = [46]
    · rw [fol_dot h1, fol_dot h1]; exact fol_map f t k todo cur
    by_cases h2 : n.data.toList = [46, 46]
    · rw [fol_up h2, fol_up h2]; exact fol_map f t k todo _
    cases h3 : isName n with
    | false => rw [fol_bad h1 h2 h3, fol_bad h1 h2 h3]
    | true =>
      cases ha : atT t (cur ++ [n]) with
      | none => rw [fol_none h3 ha, fol_none h3 (by rw [atT_map, ha]; rfl)]
      | some x =>
        have hm : atT (t.map f) (cur ++ [n]) = some (x.map f) := by rw [atT_map, ha]; rfl
        by_cases hl : x.kind = kLink
        · have hl2 : (x.map f).kind = kLink := by rw [Tr.kind_map]; exact hl
          cases k with
          | zero => rw [fol_last h3 ha hl, fol_last h3 hm hl2]
          | succ k =>
            rw [fol_link h3 ha hl, fol_link h3 hm hl2, Tr.data_map]
            exact fol_map f t k _ _
        · have hl2 : (x.map f).kind ≠ kLink := by rw [Tr.kind_map]; exact hl
          rw [fol_go h3 ha hl, fol_go h3 hm hl2]
          exact fol_map f t k todo _
termination_by k todo => (k, todo.length)
theorem followOf_map (f : α → β) (t : Tr α) (s : ByteArray) : followOf (t.map f) s = followOf t s := by
  unfold followOf
  rw [treeE_map]
  cases splitOf s with
  | none => rfl
  | some l => simp only [fol_map]
end

set_option maxRecDepth 100000 in
theorem pfollow_bad (E : Nat → Addr) (B : Nat) (t : Lt) (s : ByteArray) (w : World) (ht : t.Ok w) (hE : Env trGs B w E) (h0 : treeE t ≠ 0) :
    Calls Tryz.prog 31 #[nval t, .string s] w (FolP E t s w) := by
  obtain ⟨a, cap, hv⟩ := ht.shape
  have hB0 : Below w.heap.size w (w.alloc (.cells #[.string t.kind, .string t.data, .bool t.exec, .slice a t.kids.length cap] 24)) := (Below.refl _ _).alloc (Nat.le_refl _) _
  have hN := names_bad E B t s _ (ht.ob hB0) (hE.ob hB0) h0
  have HF := hidd (follow_err (s := s) h0)
  have HV := hidd (evc_ne (E := E) h0)
  have H0 := hidd h0
  have hbd : treeE t ≤ 10 := scan_bd _ 0
  rw [evc_ne h0] at hN
  obtain ⟨c, hc⟩ : ∃ c, treeE t = c := ⟨_, rfl⟩
  rw [hc] at hN HF HV H0 hbd
  unfold nval at hN ⊢
  rw [hv] at hN ⊢
  have HN := hidd hN
  clear hN ht hE h0 hv hc
  go_enter Tryz.func31, Tryz.ntmps31
  go_wp2_with fail
  refine HN.out.mono ?_
  rintro e w2 ⟨rfl, hb2⟩
  go_wp2_with fail
  go_ret2
  exact ⟨hB0.trans (hb2.mono hB0.size), .inl ⟨c, HF.out, H0.out, hbd, by rw [HV.out]; rfl⟩⟩
/-- What is followed to: a path and an error's number. -/
def FV (R : Except Nat (List ByteArray)) (p : ByteArray) (c : Nat) : Prop := (R = .error c ∧ c ≠ 0 ∧ p = ⟨#[]⟩) ∨ (∃ r, R = .ok r ∧ p = joinP r ∧ c = 0)
theorem FV.uniq {R : Except Nat (List ByteArray)} {p q : ByteArray} {c d : Nat} (h : FV R p c) (k : FV R q d) : p = q ∧ c = d := by
  rcases h with ⟨h1, h2, h3⟩ | ⟨r, h1, h2, h3⟩
  · rcases k with ⟨k1, -, k3⟩ | ⟨r', k1, -⟩
    · rw [h1] at k1; exact ⟨h3.trans k3.symm, Except.error.inj k1⟩
    · rw [h1] at k1; cases k1
  · rcases k with ⟨k1, -⟩ | ⟨r', k1, k2, k3⟩
    · rw [h1] at k1; cases k1
    · rw [h1] at k1; rw [← Except.ok.inj k1] at k2; exact ⟨h2.trans k2.symm, h3.trans k3.symm⟩
/-- What both calls give. -/
def FtP (ev : Nat → Value) (R : Except Nat (List ByteArray)) (w : World) (e : Ending) (w' : World) : Prop :=
  ∃ (p : ByteArray) (c : Nat), e = .returned (.tuple #[.string p, ev c]) ∧ Below w.heap.size w w' ∧ c ≤ 10 ∧ Hid (FV R p c)
theorem pfollow_any (E : Nat → Addr) (B : Nat) (t : Lt) (s : ByteArray) (w : World) (ht : t.Ok w) (hE : Env trGs B w E) (hM : Ml w) (hs : s.size ≤ 1000000) :
    Calls Tryz.prog 31 #[nval t, .string s] w (FtP (evc E) (followOf t.bare s) w) := by
  have h : Calls Tryz.prog 31 #[nval t, .string s] w (FolP E t s w) := by
    by_cases h0 : treeE t = 0
    · exact follow_any E B t s w ht hE hM hs h0
    · exact pfollow_bad E B t s w ht hE h0
  refine h.mono ?_
  rintro e w' ⟨hb, ⟨c, hc, hc0, h1, rfl⟩ | ⟨r, hr, rfl⟩⟩
  · exact ⟨_, c, rfl, hb, h1, .inl ⟨by unfold Tr.bare; rw [followOf_map]; exact hc, hc0, rfl⟩⟩
  · exact ⟨_, 0, rfl, hb, Nat.zero_le _, .inr ⟨r, by unfold Tr.bare; rw [followOf_map]; exact hr, rfl, rfl⟩⟩
theorem RfoP.two {t : Lt} {s : ByteArray} {w w' : World} {e : Ending} (h : RfoP t s w e w') : FtP numV (followOf t.bare s) w e w' := by
  obtain ⟨hb, ⟨c, hc, hc0, h1, rfl⟩ | ⟨r, hr, rfl⟩⟩ := h
  · exact ⟨_, c, rfl, hb, h1, .inl ⟨by unfold Tr.bare; rw [followOf_map]; exact hc, hc0, rfl⟩⟩
  · exact ⟨_, 0, rfl, hb, Nat.zero_le _, .inr ⟨r, by unfold Tr.bare; rw [followOf_map]; exact hr, rfl, rfl⟩⟩
/-- What both calls of Split give. -/
def StP (ev : Nat → Value) (s : ByteArray) (w : World) (e : Ending) (w' : World) : Prop :=
  ∃ (a : Option Addr) (cap : Nat) (c : Nat) (l : List ByteArray), e = .returned (.tuple #[.slice a l.length cap, ev c]) ∧ Below w.heap.size w w' ∧ c ≤ 10 ∧ Sl w' (.slice a l.length cap) (tcells l) l.length 1 ∧ Hid (splitOf s = some l ∧ c = 0 ∨ splitOf s = none ∧ c = 5 ∧ l = [])
theorem SplP.two {E : Nat → Addr} {s : ByteArray} {w w' : World} {e : Ending} (h : SplP E s w e w') : StP (evc E) s w e w' := by
  obtain ⟨hb, ⟨l, v, hl, rfl, hs⟩ | ⟨hl, rfl⟩⟩ := h
  · obtain ⟨a, cap, rfl, -⟩ := id hs
    exact ⟨a, cap, 0, l, rfl, hb, Nat.zero_le _, hs, .inl ⟨hl, rfl⟩⟩
  · exact ⟨none, 0, 5, [], rfl, hb, by omega, Sl.nil _ _, .inr ⟨hl, rfl, rfl⟩⟩
theorem RsP.two {s : ByteArray} {w w' : World} {e : Ending} (h : RsP s w e w') : StP numV s w e w' := by
  obtain ⟨hb, ⟨l, v, hl, rfl, hs⟩ | ⟨hl, rfl⟩⟩ := h
  · obtain ⟨a, cap, rfl, -⟩ := id hs
    exact ⟨a, cap, 0, l, rfl, hb, Nat.zero_le _, hs, .inl ⟨hl, rfl⟩⟩
  · exact ⟨none, 0, 5, [], rfl, hb, by omega, Sl.nil _ _, .inr ⟨hl, rfl, rfl⟩⟩
end Go.Proofs.YtbadnmfmncjdjaaGreatDoor
