/- stillroomlaw1.PathFollows, walked. Condition: the tree is there, the variables read as listed. -/
import Derived.Test.YthnlaigabefidaaDoorPaV
import Derived.Test.YthnlaigabefidaaDoorPs
import Derived.Test.YthnlaigabefidaaDoorTrD
import Derived.Test.YthnlaigabefidaaDoorTrO
namespace Go.Proofs.YthnlaigabefidaaDoor
open Go.RowKit Go.Shelf

set_option maxRecDepth 100000 in
theorem follow_bad (E : Nat → Addr) (B : Nat) (t : Lt) (s : ByteArray) (w : World) (ht : t.Ok w) (hE : Env trGs B w E) (h0 : treeE t ≠ 0) :
    Calls Tryd.prog 7 #[nval t, .string s] w (FolP E t s w) := by
  obtain ⟨a, cap, hv⟩ := ht.shape
  have hB0 : Below w.heap.size w (w.alloc (.cells #[.string t.kind, .string t.data, .bool t.exec, .slice a t.kids.length cap] 24)) := (Below.refl _ _).alloc (Nat.le_refl _) _
  have hN := names_bad E B t s _ (ht.ob hB0) (hE.ob hB0) h0
  have HF := hidd (follow_err (s := s) h0)
  have HV := hidd (evc_ne (E := E) h0)
  have H0 := hidd h0
  have hbd : treeE t ≤ 10 := scan_bd _ 0
  rw [evc_ne h0] at hN
  obtain ⟨c, hc⟩ : ∃ c, treeE t = c := ⟨_, rfl⟩
  rw [hc] at hN HF HV H0 hbd
  unfold nval at hN ⊢
  rw [hv] at hN ⊢
  have HN := hidd hN
  clear hN ht hE h0 hv hc
  go_enter Tryd.func7, Tryd.ntmps7
  go_wp2_with fail
  refine HN.out.mono ?_
  rintro e w2 ⟨rfl, hb2⟩
  go_wp2_with fail
  go_ret2
  exact ⟨hB0.trans (hb2.mono hB0.size), .inl ⟨c, HF.out, H0.out, hbd, by rw [HV.out]; rfl⟩⟩
theorem follow_full (E : Nat → Addr) (B : Nat) (t : Lt) (s : ByteArray) (w : World) (ht : t.Ok w) (hE : Env trGs B w E) (hM : Ml w) (hs : s.size ≤ 1000000) :
    Calls Tryd.prog 7 #[nval t, .string s] w (FolP E t s w) := by
  by_cases h0 : treeE t = 0
  · exact follow_any E B t s w ht hE hM hs h0
  · exact follow_bad E B t s w ht hE h0
theorem joinP_size {t : Lt} {r : List ByteArray} (h0 : treeE t = 0) (hg : GoodC t r) : (joinP r).size ≤ 1000 := by
  have h8 := good_len h0 hg
  have := joined_bd (l := r) (fun x hx => by
    have h2 := hg.1
    rw [List.all_eq_true] at h2
    have := h2 x hx
    unfold isName at this
    simp only [Bool.and_eq_true, decide_eq_true_eq] at this
    omega)
  by_cases h : r = []
  · subst h; decide
  · rw [joinP_cons h, jt_size]; omega

theorem follow_names {t : Lt} {s : ByteArray} {r : List ByteArray} (h : followOf t s = .ok r) : ∃ l, splitOf s = some l ∧ l.length ≤ 8 ∧ l.all isName = true ∧ (joined l).length ≤ 1000 ∧
    ((∀ i, i < l.length → ∃ x, atT t (l.take (i + 1)) = some x ∧ x.kind ≠ kLink) → joinP r = s) ∧
    (∀ i, i < l.length → (∃ c, getOf t (jt (l.take (i + 1))) = .error c) ∨ ∃ x, atT t (l.take (i + 1)) = some x ∧ getOf t (jt (l.take (i + 1))) = .ok x) := by
  have h0 := (follow_stays h).1
  cases hs : splitOf s with
  | none => rw [follow_split h0 hs] at h; cases h
  | some l =>
    rw [follow_some h0 hs] at h
    obtain ⟨h8, hn⟩ := splitOf_names hs
    refine ⟨l, rfl, h8, hn, ?_, fun hp => ?_, fun i hi => ?_⟩
    · have := joined_bd (l := l) (fun x hx => by
        rw [List.all_eq_true] at hn
        have := hn x hx
        unfold isName at this
        simp only [Bool.and_eq_true, decide_eq_true_eq] at this
        omega)
      omega
    · have e := fol_plain 16 l [] hn (by simpa using hp)
      rw [h] at e
      obtain rfl : r = l := by simpa using Except.ok.inj e
      rcases splitOf_join hs with ⟨h1, rfl⟩ | ⟨-, hne, hj⟩
      · exact ba_inj h1.symm
      · exact (joinP_cons hne).trans (ba_inj hj)
    · have hne : l.take (i + 1) ≠ [] := fun e => by
        have := congrArg List.length e
        rw [List.length_take, List.length_nil] at this; omega
      have hsp : splitOf (jt (l.take (i + 1))) = some (l.take (i + 1)) := by
        rw [← joinP_cons hne]
        refine names_joined ?_ (by rw [List.length_take]; omega)
        rw [List.all_eq_true] at hn ⊢
        exact fun x hx => hn x (List.mem_of_mem_take hx)
      cases ha : atT t (l.take (i + 1)) with
      | none => exact .inl ⟨6, getOf_none h0 hsp ha⟩
      | some x => exact .inr ⟨x, rfl, getOf_ok h0 hsp ha⟩

/-- What holds between the calls. -/
structure PfK (E : Nat → Addr) (B : Nat) (w : World) (x : Lt) (px : Nat) (W : World) : Prop where
  below : Below w.heap.size w W
  ox : x.Ok W
  env : Env trGs B W E
  ml : Ml W
  bx : Blk W px (ncells x) 24
theorem PfK.later {E : Nat → Addr} {B : Nat} {w W W' : World} {x : Lt} {px : Nat} (h : PfK E B w x px W) (hb : Below W.heap.size W W') : PfK E B w x px W' :=
  ⟨h.below.trans (hb.mono h.below.size), h.ox.ob hb, h.env.ob hb, h.ml.ob hb, h.bx.below hb h.bx.lt⟩

set_option maxRecDepth 100000 in
set_option maxHeartbeats 40000000 in
theorem pathFollows_true (E : Nat → Addr) (B : Nat) (t : Lt) (s : ByteArray) (w : World) (ht : t.Ok w) (_ : s.size ≤ 9223372036854775807) (hE : Env trGs B w E) (hM : Ml w) :
    Calls Tryd.prog 3 #[nval t, .string s] w fun e w' => e = .returned (.bool true) ∧ Below w.heap.size w w' := by
  obtain ⟨a, cap, hv⟩ := ht.shape
  have hB1 : Below w.heap.size w (w.alloc (.cells #[.string t.kind, .string t.data, .bool t.exec, .slice a t.kids.length cap] 24)) := (Below.refl _ _).alloc (Nat.le_refl _) _
  have hb1 := Blk.new w [.string t.kind, .string t.data, .bool t.exec, .slice a t.kids.length cap] 24
  have hE1 := hE.ob hB1
  have hM1 := hM.ob hB1
  have ht1 := ht.ob hB1
  have HLG := hidd (fun W (h : t.Ok W) => large_any t 100 W h (by omega))
  have HOW := hidd (fun W (h : t.Ok W) (hs : t.sz ≤ 300) => own_any 300 t W hs (Nat.le_refl _) h)
  unfold nval at HLG HOW ⊢
  rw [hv] at HLG HOW ⊢
  have HO1 := hidd ht1
  clear hv ht1 hE hM ht
  go_enter Tryd.func3, Tryd.ntmps3
  go_wp2_with fail
  refine (pathed_true E B _ hE1 hM1).mono ?_
  rintro e w2 ⟨rfl, hb2⟩
  have hB2 := hB1.trans (hb2.mono hB1.size)
  have hk2 := hb1.below hb2 hb1.lt
  have x0 := hk2.cell (i := 0) rfl
  have x1 := hk2.cell (i := 1) rfl
  have x2 := hk2.cell (i := 2) rfl
  have x3 := hk2.cell (i := 3) rfl
  have HE2 := hidd (hE1.ob hb2)
  have HM2 := hidd (hM1.ob hb2)
  have HO2 := hidd (HO1.out.ob hb2)
  clear hE1 hM1 hb1 HO1 hb2 hB1
  go_wp2_with fail
  refine (HLG.out _ HO2.out).mono ?_
  rintro e w3 ⟨hres, hb3⟩
  have hB3 := hB2.trans (hb3.mono hB2.size)
  have hk3 := hk2.below hb3 hk2.lt
  have y0 := hk3.cell (i := 0) rfl
  have y1 := hk3.cell (i := 1) rfl
  have y2 := hk3.cell (i := 2) rfl
  have y3 := hk3.cell (i := 3) rfl
  have HE3 := hidd (HE2.out.ob hb3)
  have HM3 := hidd (HM2.out.ob hb3)
  have HO3 := hidd (HO2.out.ob hb3)
  clear HE2 HM2 HO2 hb3 hB2 hk2 x0 x1 x2 x3
  rcases hres with ⟨rfl, hsm⟩ | rfl
  · have hs300 : t.sz ≤ 300 := by have := hsm.many; omega
    clear hsm
    by_cases h150 : 150 < s.size
    · have e1 : decide ((150 : Int) < (s.size : Int)) = true := decide_eq_true (by omega)
      go_wp2_with fail
      go_ret
      exact ⟨rfl, hB3⟩
    have e1 : decide ((150 : Int) < (s.size : Int)) = false := decide_eq_false (by omega)
    go_wp2_with fail
    refine (HOW.out _ HO3.out hs300).mono ?_
    rintro e w4 ⟨xa, xc, ks, rfl, hbr, hok, -, hb4⟩
    have hB4 := hB3.trans (hb4.mono hB3.size)
    have hE4 := HE3.out.ob hb4
    have hM4 := HM3.out.ob hb4
    obtain ⟨kd, hkd⟩ : ∃ kd, t.kind = kd := ⟨_, rfl⟩
    obtain ⟨da, hda⟩ : ∃ da, t.data = da := ⟨_, rfl⟩
    obtain ⟨ex, hex⟩ : ∃ ex, t.exec = ex := ⟨_, rfl⟩
    rw [hkd, hda, hex] at hok ⊢
    have hBa : Below w4.heap.size w4 (w4.alloc (.cells #[.string kd, .string da, .bool ex, .slice xa ks.length xc] 24)) := (Below.refl _ _).alloc (Nat.le_refl _) _
    have hq5 : PfK E B w (.mk kd da ex (.slice xa ks.length xc) ks) w4.heap.size (w4.alloc (.cells #[.string kd, .string da, .bool ex, .slice xa ks.length xc] 24)) :=
      ⟨hB4.trans (hBa.mono hB4.size), hok.ob hBa, hE4.ob hBa, hM4.ob hBa, Blk.new w4 [.string kd, .string da, .bool ex, .slice xa ks.length xc] 24⟩
    have HFL := hidd (fun W s (h : PfK E B w (.mk kd da ex (.slice xa ks.length xc) ks) w4.heap.size W) (hs : s.size ≤ 1000000) => follow_full E B (.mk kd da ex (.slice xa ks.length xc) ks) s W h.ox h.env h.ml hs)
    have HGT := hidd (fun W s (h : PfK E B w (.mk kd da ex (.slice xa ks.length xc) ks) w4.heap.size W) (hs : s.size < 4294967281) => get_any E B (.mk kd da ex (.slice xa ks.length xc) ks) s W h.ox h.env h.ml hs)
    simp only [nval, Tr.kind, Tr.data, Tr.exec, Tr.v] at HFL HGT
    clear hB4 hE4 hM4 hok hBa hbr HO3 HE3 HM3 hk3 y0 y1 y2 y3 hb4
    go_wp2_with fail
    refine (HFL.out _ s hq5 (by omega)).mono ?_
    rintro e w6 ⟨hb6, hr⟩
    have hq6 := hq5.later hb6
    rcases hr with ⟨c, hc, hc0, hc10, rfl⟩ | ⟨r, hr, rfl⟩
    · rw [evc_ne hc0]
      have hB6 := hq6.below
      clear hq5 hq6 hb6 hc
      go_wp2_with fail
      go_ret
      exact ⟨rfl, hB6⟩
    · obtain ⟨h0, hg, ⟨x, hgx, hxk⟩, hst⟩ := follow_stays hr
      have hpz := joinP_size h0 hg
      obtain ⟨l, hl, hl8, hln, hlj, hfin, hgot⟩ := follow_names hr
      have hP0 : (r = [] ∧ (joinP r).toList = [47]) ∨ (r ≠ [] ∧ ((joinP r).toList == [47]) = false) := by
        by_cases hr0 : r = []
        · exact .inl ⟨hr0, by rw [hr0, Lib.toList_data]; rfl⟩
        · refine .inr ⟨hr0, ?_⟩
          rw [Lib.toList_data]
          cases hq : ((joinP r).data.toList == [47]) with
          | false => rfl
          | true =>
            have e1 := splitOf_stroke (s := joinP r) (by simpa using hq)
            rw [good_split h0 hg] at e1
            exact absurd (Option.some.inj e1) hr0
      have HG1 := hidd (HGT.out _ (joinP r) hq6 (by omega))
      have HGX := hidd hgx
      have HST := hidd hst
      have HFIN := hidd hfin
      have HGOT := hidd hgot
      have HL := hidd hl
      have HLN := hidd hln
      have HLJ := hidd hlj
      obtain ⟨P, hP⟩ : ∃ P, joinP r = P := ⟨_, rfl⟩
      have HPP := hidd hP
      rw [hP] at HG1 hP0 hpz ⊢
      have x0 := hq6.bx.cell (i := 0) (v := .string kd) rfl
      have x1 := hq6.bx.cell (i := 1) (v := .string da) rfl
      have x2 := hq6.bx.cell (i := 2) (v := .bool ex) rfl
      have x3 := hq6.bx.cell (i := 3) (v := .slice xa ks.length xc) rfl
      clear hq5 hb6 hr hg hgx hst hfin hgot hl hln hlj hP
      go_wp2_with fail
      refine HG1.out.mono ?_
      rintro e w7 ⟨hb7, hr7⟩
      have hq7 := hq6.later hb7
      rcases hr7 with ⟨c, hc, -⟩ | ⟨x', y, hx', -, rfl, hbr7, hyo, -⟩
      · have := HGX.out; rw [HPP.out, hc] at this; cases this
      obtain rfl : x = x' := by have := HGX.out; rw [HPP.out, hx'] at this; exact (Except.ok.inj this).symm
      obtain ⟨ya, yc, hyv⟩ := hyo.shape
      have hyk := (Tr.bare_iff.1 hbr7).1
      obtain ⟨ky, dy, ey, vy, ksy⟩ := y
      simp only [Tr.v, Tr.kids] at hyv
      subst hyv
      have hyk' : ky = x.kind := hyk
      rw [show nval (Tr.mk ky dy ey (.slice ya ksy.length yc) ksy : Lt) = .agg #[.string ky, .string dy, .bool ey, .slice ya ksy.length yc] from rfl]
      have hBy : Below w7.heap.size w7 (w7.alloc (.cells #[.string ky, .string dy, .bool ey, .slice ya ksy.length yc] 24)) := (Below.refl _ _).alloc (Nat.le_refl _) _
      have hqy := Blk.new w7 [.string ky, .string dy, .bool ey, .slice ya ksy.length yc] 24
      have hq8 := hq7.later hBy
      have HF2 := hidd (HFL.out _ P hq8 (by omega))
      have hxk2 : r = [] ∨ ky ≠ kLink := by rw [hyk']; exact hxk
      clear x0 x1 x2 x3 hq6 hb7 hq7 hBy hbr7 hyo hx' hyk hyk' hxk HG1 HGX
      have x0 := hq8.bx.cell (i := 0) (v := .string kd) rfl
      have x1 := hq8.bx.cell (i := 1) (v := .string da) rfl
      have x2 := hq8.bx.cell (i := 2) (v := .bool ex) rfl
      have x3 := hq8.bx.cell (i := 3) (v := .slice xa ks.length xc) rfl
      go_wp2_with fail
      refine HF2.out.mono ?_
      rintro e w9 ⟨hb9, hr9⟩
      have hq9 := hq8.later hb9
      have hqy9 := hqy.below hb9 hqy.lt
      have z0 := hqy9.cell (i := 0) rfl
      rcases hr9 with ⟨c, hc, -⟩ | ⟨r2, hr2, rfl⟩
      · have := HST.out; rw [HPP.out, hc] at this; cases this
      obtain rfl : r = r2 := by have := HST.out; rw [HPP.out, hr2] at this; exact (Except.ok.inj this).symm
      rw [HPP.out]
      have HSP := hidd (split_any E B s w9 hq9.env hq9.ml (by omega))
      clear x0 x1 x2 x3 hq8 hb9 hqy hqy9 hr2 HF2 HST
      have hk3 : (P.toList = [47]) ∨ ((P.toList == [47]) = false ∧ (ky.toList == [108, 105, 110, 107]) = false) := by
        rcases hP0 with ⟨-, h⟩ | ⟨h, h'⟩
        · exact .inl h
        · refine .inr ⟨h', ?_⟩
          rw [show ([108, 105, 110, 107] : List UInt8) = kLink.toList by rw [Lib.toList_data]; rfl]
          exact beq_str (hxk2.resolve_left h)
      clear hP0 hxk2
      rcases hk3 with k1 | ⟨k1, k2⟩
      all_goals
        go_wp2_with fail
        refine HSP.out.mono ?_
        rintro e w10 ⟨hb10, hr10⟩
        have hq10 := hq9.later hb10
        rcases hr10 with ⟨l', v, hl', rfl, hsl⟩ | ⟨hl', -⟩
        rotate_left
        · have := HL.out; rw [hl'] at this; cases this
        obtain rfl : l = l' := Option.some.inj (HL.out.symm.trans hl')
        obtain ⟨la, lc, rfl, -⟩ := id hsl
        clear hq9 hb10 hl' HSP z0
        go_wp2_with fail
        go_loopw [13, 14, 15, 16] (fun tv z _ _ wr => ∃ i : Nat, i ≤ l.length ∧ z = .int .i64 (i : Int) ∧ tv = .string (jt (l.take i)) ∧ Hid (∀ j, j < i → ∃ x, atT (Tr.mk kd da ex (.slice xa ks.length xc) ks : Lt) (l.take (j + 1)) = some x ∧ x.kind ≠ kLink) ∧ PfK E B w (.mk kd da ex (.slice xa ks.length xc) ks) w4.heap.size wr ∧ Below w10.heap.size w10 wr) (fun _ z _ _ _ => l.length - (intOf z).toNat)
        case atStart => exact ⟨0, Nat.zero_le _, rfl, rfl, hidd (fun j hj => by omega), hq10, Below.refl _ _⟩
        case round =>
          obtain ⟨i, hi, rfl, rfl, HJ, hq, hbel⟩ := hrel
          clear hq10
          by_cases hlt : i < l.length
          · obtain ⟨b, off, rfl, hb, hc, hcell⟩ := (hsl.ob hbel (Nat.le_refl _)).at1 hlt
            rw [show (tcells l)[i] = .string l[i] by simp [tcells]] at hcell
            have hnx := jt_take hlt
            have hz2 := joined_take l (i + 1)
            rw [← jt_size, hnx, sub_size] at hz2
            have hlj := HLJ.out
            have p1 : (0 : Int) ≤ (i : Int) := by omega
            have p2 : (i : Int) < (l.length : Int) := by omega
            have hcase := HGOT.out i hlt
            rw [hnx] at hcase
            generalize l[i] = u at *
            obtain ⟨Q, hQ⟩ : ∃ Q, jt (l.take i) = Q := ⟨_, rfl⟩
            rw [hQ] at hz2 hcase hnx ⊢
            have HNX := hidd hnx
            have r1 : ¬ (9223372036854775807 < Q.size + 1) := by omega
            have r2 : ¬ (9223372036854775807 < Q.size + 1 + u.size) := by omega
            have HG2 := hidd (HGT.out _ (sub Q u) hq (by rw [sub_size]; omega))
            unfold sub at HG2
            have x0 := hq.bx.cell (i := 0) (v := .string kd) rfl
            have x1 := hq.bx.cell (i := 1) (v := .string da) rfl
            have x2 := hq.bx.cell (i := 2) (v := .bool ex) rfl
            have x3 := hq.bx.cell (i := 3) (v := .slice xa ks.length xc) rfl
            have HCA := hidd hcase
            clear hnx hQ hz2 hcase hlj
            go_wp2_with fail
            refine HG2.out.mono ?_
            rintro e w11 ⟨hb11, hr11⟩
            have hq11 := hq.later hb11
            have hbel11 := hbel.trans (hb11.mono hbel.size)
            clear x0 x1 x2 x3 hq hb11 hbel hcell HG2
            rcases hr11 with ⟨c, hc, hc0, -, rfl⟩ | ⟨x2, y2, hx2, -, rfl, hbr2, hyo2, -⟩
            · rw [evc_ne hc0]
              unfold nodeZ
              have hBB := hq11.below.alloc hq11.below.size (.cells #[.string ⟨#[]⟩, .string ⟨#[]⟩, .bool false, .slice none 0 0] 24)
              clear hc hq11
              go_wp2_with fail
              go_ret
              exact ⟨rfl, hBB⟩
            · obtain ⟨xf, hxa, hxg⟩ : ∃ x, atT (Tr.mk kd da ex (.slice xa ks.length xc) ks : Lt) (l.take (i + 1)) = some x ∧ getOf (Tr.mk kd da ex (.slice xa ks.length xc) ks : Lt) (sub Q u) = .ok x := by
                rcases HCA.out with ⟨c, hc⟩ | h
                · have := hx2; unfold sub at hc; rw [hc] at this; cases this
                · exact h
              have hx2' : x2 = xf := by unfold sub at hxg; exact Except.ok.inj (hx2.symm.trans hxg)
              subst hx2'
              obtain ⟨ya2, yc2, hyv2⟩ := hyo2.shape
              have hyk2 := (Tr.bare_iff.1 hbr2).1
              obtain ⟨ky2, dy2, ey2, vy2, ksy2⟩ := y2
              simp only [Tr.v, Tr.kids] at hyv2
              subst hyv2
              have hyk2' : ky2 = x2.kind := hyk2
              rw [show nval (Tr.mk ky2 dy2 ey2 (.slice ya2 ksy2.length yc2) ksy2 : Lt) = .agg #[.string ky2, .string dy2, .bool ey2, .slice ya2 ksy2.length yc2] from rfl]
              have hBy2 : Below w11.heap.size w11 (w11.alloc (.cells #[.string ky2, .string dy2, .bool ey2, .slice ya2 ksy2.length yc2] 24)) := (Below.refl _ _).alloc (Nat.le_refl _) _
              have hqq := hq11.later hBy2
              have hbelF := hbel11.trans (hBy2.mono hbel11.size)
              have hBF := hqq.below
              by_cases hkl : ky2 = kLink
              · have k5 : (ky2.toList == [108, 105, 110, 107]) = true := by rw [hkl, Lib.toList_data]; rfl
                clear hx2 hxa hxg hbr2 hyo2 hyk2 hyk2' hq11 hbel11 hBy2 hqq hbelF hkl
                go_wp2_with fail
                go_ret
                exact ⟨rfl, hBF⟩
              · have k5 : (ky2.toList == [108, 105, 110, 107]) = false := by rw [show ([108, 105, 110, 107] : List UInt8) = kLink.toList by rw [Lib.toList_data]; rfl]; exact beq_str hkl
                have HJ2 : Hid (∀ j, j < i + 1 → ∃ x, atT (Tr.mk kd da ex (.slice xa ks.length xc) ks : Lt) (l.take (j + 1)) = some x ∧ x.kind ≠ kLink) := hidd (fun j hj => by
                  by_cases hji : j < i
                  · exact HJ.out j hji
                  · obtain rfl : j = i := by omega
                    exact ⟨x2, hxa, by rw [← hyk2']; exact hkl⟩)
                clear hx2 hxa hxg hbr2 hyo2 hyk2 hyk2' hq11 hbel11 hBy2 hBF hkl
                go_wp2_with fail
                go_roundw
                case rel => exact ⟨i + 1, hlt, by go_num, by rw [HNX.out]; rfl, HJ2, hqq, hbelF⟩
                case measure => simp [intOf]; omega
          · have hps : P = s := by rw [← HPP.out]; exact HFIN.out (fun j hj => HJ.out j (by omega))
            subst hps
            have hBF := hq.below
            clear hq hbel hsl
            go_wp2_with fail
            go_ret
            exact ⟨rfl, hBF⟩
  · go_wp2_with fail
    go_ret
    exact ⟨rfl, hB3⟩
end Go.Proofs.YthnlaigabefidaaDoor
