/- stillroomlaw3.RefsTell, walked. Condition: the packs, the names and the name are there, the variables read as listed. -/
import Derived.Test.YtlcabkhalockpaaGreatDoorQo
import Derived.Test.YtlcabkhalockpaaGreatDoorQi
namespace Go.Proofs.YtlcabkhalockpaaGreatDoor
open Go.RowKit Go.Shelf Go.Maps

theorem closE_pn {M L : List Pv} (h : pnL M = pnL L) (n : List ByteArray) : closE M n = closE L n := by
  unfold closE
  rw [h, ← pnL_names M, ← pnL_names L, h]
/-- Two lists in order, of the same texts, or none at all. -/
theorem tell_same {c d : List ByteArray} {n : Nat} {P : ByteArray → Prop} (h0 : n = 0 → Up c ∧ ∀ s, s ∈ c ↔ P s) (h1 : n ≠ 0 → c = []) (k0 : n = 0 → Up d ∧ ∀ s, s ∈ d ↔ P s) (k1 : n ≠ 0 → d = []) : c = d := by
  by_cases h : n = 0
  · exact up_eq (h0 h).1 (k0 h).1 (fun s => by rw [(h0 h).2, (k0 h).2])
  · rw [h1 h, k1 h]
theorem tell_dead {c d : List ByteArray} {n : Nat} {p : List Pn} {names : List ByteArray} (h0 : n = 0 → ∃ live, Clo p names live ∧ c = deadOf p live) (h1 : n ≠ 0 → c = []) (k0 : n = 0 → ∃ live, Clo p names live ∧ d = deadOf p live) (k1 : n ≠ 0 → d = []) : c = d := by
  by_cases h : n = 0
  · obtain ⟨l, hl, rfl⟩ := h0 h
    obtain ⟨m, hm, rfl⟩ := k0 h
    rw [hl.one hm]
  · rw [h1 h, k1 h]
/-- An error's value stands, whatever becomes of a block of two numbers. -/
theorem fav_set {E : Nat → Addr} {v : Value} {c : Nat} {a x y : Int} {W : World} {n : Nat} {T : TypeId} (h : FaV E v c a W) (hb : Blk W n [.int .i64 x, .int .i64 y] T) (u t : Value) : FaV E v c a ((W.setCell ⟨n, 0, none⟩ u).setCell ⟨n, 1, none⟩ t) := by
  rcases h with h | h | ⟨h0, f, rfl, hf⟩
  · exact .inl h
  · exact .inr (.inl h)
  · refine .inr (.inr ⟨h0, f, rfl, ?_⟩)
    have hne : f ≠ n := fun e => by
      subst e
      have h1 : some _ = some _ := hf.symm.trans hb
      have h2 := congrArg (fun o : Option Obj => match o with | some (.cells cs _ _) => cs[1]? | _ => none) h1
      simp [evc, erv, h0] at h2
    exact (hf.other hne u).other hne t
set_option maxRecDepth 100000 in
set_option maxHeartbeats 40000000 in
theorem refsTell_true (E : Nat → Addr) (B : Nat) (v : Value) (L : List Pv) (u : Value) (names : List ByteArray) (s : ByteArray) (w : World) (h : PkI L v w) (ht : ∀ p ∈ L, p.tn ≤ maxLen) (hu : TxI names u w) (hs : Sz s) (hE : Env codeGs B w E) (hH : Hnd w) :
    Calls Tryz.prog 3 #[v, u, .string s] w fun e w' => e = .returned (.bool true) ∧ Below w.heap.size w w' := by
  obtain ⟨a, cap, rfl⟩ := h.shape
  obtain ⟨ua, uc, rfl⟩ := hu.shape
  obtain ⟨i0, hi0, hz0, hz1, hz2⟩ := info_parts infoTx3
  have HE := hidd (fun W (hW : Below w.heap.size w W) => hE.ob hW)
  have HHn := hidd (fun W (hW : Below w.heap.size w W) => hH.below hW (Nat.le_refl _))
  have HP := hidd (fun W (hW : Below w.heap.size w W) => h.ob hW)
  have HU := hidd (fun W (hW : Below w.heap.size w W) => hu.ob hW)
  have HN := hidd (needed_true E B w hE hH)
  have HS := hidd hs
  clear h hu hE hH hs
  go_enter Tryz.func3, Tryz.ntmps3
  go_wp2_with fail
  refine HN.out.mono ?_
  rintro e w1 ⟨rfl, hB1⟩
  have HLP := hidd (longPacks_any L _ w1 (HP.out w1 hB1) ht)
  clear HN
  go_wp2_with fail
  refine HLP.out.mono ?_
  rintro e w2 ⟨b1, rfl, hb2, hno1⟩
  have hB2 := below_step hB1 hb2
  clear hb2 HLP
  cases b1
  rotate_left
  · go_wp2_with fail
    go_ret
    exact ⟨rfl, hB2⟩
  obtain ⟨hl45, hsh⟩ := hno1 rfl
  have HLT := hidd (longTexts_any names _ w2 (HU.out w2 hB2))
  clear hno1
  go_wp2_with fail
  refine HLT.out.mono ?_
  rintro e w3 ⟨b2, rfl, hb3, hno2⟩
  have hB3 := below_step hB2 hb3
  clear hb3 HLT
  cases b2
  rotate_left
  · go_wp2_with fail
    go_ret
    exact ⟨rfl, hB3⟩
  obtain ⟨hn20, hns⟩ := hno2 rfl
  by_cases h30 : s.size ≤ 30
  rotate_left
  · have q30 : (30 : Int) < (s.size : Int) := by omega
    clear hsh HP ht hns
    go_wp2_with fail
    go_ret
    exact ⟨rfl, hB3⟩
  have q30 : ¬ (30 : Int) < (s.size : Int) := by omega
  have HOP := hidd (ownPacks_any L _ w3 (HP.out w3 hB3) hl45 (fun p hp => (hsh p hp).2.1))
  clear hno2 hsh hns
  go_wp2_with fail
  clear q30 h30
  refine HOP.out.mono ?_
  rintro e w4 ⟨M, mv, rfl, hM, hpn, hb4⟩
  have hB4 := below_step hB3 hb4
  obtain ⟨ma, mc, rfl⟩ := hM.shape
  have hml : M.length ≤ 45 := by have := congrArg List.length hpn; simp only [pnL, List.length_map] at this; omega
  have hcl := closE_pn hpn
  have HM := hidd (fun W (hW : Below w4.heap.size w4 W) => hM.ob hW)
  have HCK := hidd (rCheck_any E B M _ w4 hM (HE.out w4 hB4))
  have HPN := hidd hpn
  have HCL := hidd hcl
  have HB4 := hidd hB4
  clear hb4 HOP hM hB1 hB2 hB3 hpn hcl ht hB4
  go_wp2_with fail
  refine HCK.out.mono ?_
  rintro e w5 ⟨ev, rfl, hf, hb5⟩
  have hB5 := below_step HB4.out hb5
  have HPF := hidd (packsFault_any L _ _ (HP.out w5 hB5))
  have HF := hidd hf
  clear hf HCK
  go_wp2_with fail
  refine HPF.out.mono ?_
  rintro e w6 ⟨rfl, hb6⟩
  have hB6 := below_step hB5 hb6
  have hft := fav_true HF.out (packsE_le _) hb6 (HE.out w6 hB6) (HHn.out w6 hB6)
  rw [HPN.out] at hft
  have HFT := hidd hft
  unfold fauV
  clear hft HF HPF
  go_wp2_with fail
  refine HFT.out.mono ?_
  rintro e w7 ⟨rfl, hb7⟩
  have hB7 := below_step hB6 hb7
  have hM7 := HM.out w7 (below_step (below_step hb5 hb6) hb7)
  have hsrc := Src.sl (P := Tryz.prog) (tx := 23) Tryz.underlying23 (HU.out w7 hB7).1 (one_tcells names)
  clear hb5 hb6 hb7 HFT hB5 hB6
  go_wp2_with (at_builtin; refine wpList_append_ow _ rfl _ _ 23 23 rfl (fun g => w7.heap.size ≤ g) ?cF 9 i0 _ 1 16 Tryz.underlying23 hi0 hz0 hz1 hz2 rfl (by decide) _ _ _ rfl (Ow.nil _ _ _ _) _ _ _ rfl hsrc ?c3 ?c4 ?_)
  case cF => intro g hg; exact hg
  case c3 => unfold maxLen; omega
  case c4 => omega
  intro v' w8 how5 hgr5
  try simp only [Nat.zero_add, List.nil_append] at how5
  obtain ⟨oa, oc, rfl⟩ := how5.shape
  have hb8 : Below w7.heap.size w7 w8 := (Below.refl _ _).grown hgr5 (Nat.le_refl _) (fun k e => by cases e)
  have hB8 := below_step hB7 hb8
  have hO : TxI names (.slice oa names.length oc) w8 := ⟨how5.sl, (HU.out w7 hB7).2⟩
  have hM8 := hM7.ob hb8
  have HM8 := hidd (fun W (hW : Below w8.heap.size w8 W) => hM8.ob hW)
  have HO := hidd (fun W (hW : Below w8.heap.size w8 W) => hO.ob hW)
  have HP8 := hidd (fun W (hW : Below w8.heap.size w8 W) => HP.out W (below_step hB8 hW))
  have HU8 := hidd (fun W (hW : Below w8.heap.size w8 W) => HU.out W (below_step hB8 hW))
  have HE8 := hidd (fun W (hW : Below w8.heap.size w8 W) => HE.out W (below_step hB8 hW))
  have HHn8 := hidd (fun W (hW : Below w8.heap.size w8 W) => HHn.out W (below_step hB8 hW))
  have HC := hidd (closure_any E B M names _ _ w8 hM8 hO (HE8.out w8 (Below.refl _ _)) (by omega))
  have HB8 := hidd hB8
  clear hsrc how5 hgr5 hb8 hM7 hM8 hO HE HU HP HM HHn hB7 hB8 HB4
  go_wp2_with fail
  refine HC.out.mono ?_
  rintro e w9 ⟨x1, xa, xc, ev, rfl, hf, hx, hb9, hok, hno⟩
  have HX := hidd (fun W (hW : Below w9.heap.size w9 W) => hx.ob hW)
  have HF := hidd hf
  have HK1 := hidd (fun h => (hok h).2.2)
  have HK2 := hidd hno
  have HCO := hidd (closureOf_any L names _ _ w9 (HP8.out w9 hb9) (HU8.out w9 hb9) (by omega))
  clear hx hf hok hno HC
  go_wp2_with fail
  refine HCO.out.mono ?_
  rintro e w10 ⟨y1, ya, yc, rfl, hy, hb10, hok2, hno2⟩
  have hB10 := below_step hb9 hb10
  have hxy : x1 = y1 := tell_same (P := fun s => Reach (pnL M) names s) (fun h => HK1.out h) HK2.out (fun h => by rw [HPN.out]; exact hok2 (by rw [← HCL.out]; exact h)) (fun h => hno2 (by rw [← HCL.out]; exact h))
  subst hxy
  have hf := HF.out
  have hce := closE_le L names
  rw [HCL.out] at hf
  obtain ⟨R1, hR1⟩ : ∃ R, closE L names = R := ⟨_, rfl⟩
  rw [hR1] at hf hce ⊢
  obtain ⟨c1, at1⟩ := R1
  simp only at hf hce
  have HF1 := hidd hf
  have HCE1 := hidd hce
  have HR1 := hidd hR1
  have hA := (Below.refl w10.heap.size w10).alloc (Nat.le_refl _) (.cells #[.int .i64 (c1 : Int), .int .i64 at1] 33)
  have hfb := Blk.new w10 [.int .i64 (c1 : Int), .int .i64 at1] 33
  have hx11 := (HX.out w10 hb10).ob hA
  have hy11 := hy.ob hA
  have hB11 := below_step hB10 hA
  have h911 := below_step hb10 hA
  have hlow : w8.heap.size ≤ w10.heap.size := hB10.size
  unfold fauV
  clear hf hce HF HCO hok2 hno2 hy HK1 HK2 HX hR1 hB10 hb10
  go_upto_region 11 with fail
  obtain ⟨fb, hfe⟩ : ∃ fb, w10.heap.size = fb := ⟨_, rfl⟩
  rw [hfe] at hfb hlow ⊢
  have HLO := hidd hlow
  clear hA hfe
  generalize w10.alloc (.cells #[.int .i64 (c1 : Int), .int .i64 at1] 33) = w11 at *
  have HFT := hidd (fav_true HF1.out HCE1.out h911 (HE8.out w11 hB11) (HHn8.out w11 hB11))
  have e0 := hfb.cell (i := 0) rfl
  have e1 := hfb.cell (i := 1) rfl
  have HX := hidd hx11
  have HY := hidd hy11
  have HFB := hidd hfb
  clear hx11 hy11 h911 hfb hlow HF1 HCE1
  go_wp2_with fail
  refine HFT.out.mono ?_
  rintro e w12 ⟨rfl, hb12⟩
  have hB12 := below_step hB11 hb12
  have hst := sameTexts_any _ _ _ _ w12 (HX.out.ob hb12).1 (HY.out.ob hb12).1
  have htt : decide (x1 = x1) = true := decide_eq_true rfl
  rw [htt] at hst
  have HST := hidd hst
  have HFB2 := hidd (HFB.out.below hb12 HFB.out.lt)
  clear hst htt HFT HX HY hb12 hb9 hB11 HFB e0 e1
  go_wp2_with fail
  refine HST.out.mono ?_
  rintro e w13 ⟨rfl, hb13⟩
  have hB13 := below_step hB12 hb13
  have HFB3 := hidd (HFB2.out.below hb13 HFB2.out.lt)
  have HUS := hidd (users_any E B M s _ w13 (HM8.out w13 hB13) (HE8.out w13 hB13) HS.out)
  clear HST hB12 hb13 HFB2
  go_wp2_with fail
  refine HUS.out.mono ?_
  rintro e w14 ⟨x2, xa2, xc2, ev2, rfl, hf, hx, hb14, hok, hno⟩
  have hB14 := below_step hB13 hb14
  have HFB4 := hidd (HFB3.out.below hb14 HFB3.out.lt)
  have HX := hidd (fun W (hW : Below w14.heap.size w14 W) => hx.ob hW)
  have HF := hidd (fun W (hW : Below w14.heap.size w14 W) => hf.ob hW)
  have HK1 := hidd (fun h => (hok h).2.2)
  have HK2 := hidd hno
  have HCO := hidd (usersOf_any L s _ w14 (HP8.out w14 hB14))
  clear hx hf hok hno HUS hb14 hB13 HFB3
  go_wp2_with fail
  refine HCO.out.mono ?_
  rintro e w15 ⟨y2, ya2, yc2, rfl, hy, hb15, hok2, hno2⟩
  have hB15 := below_step hB14 hb15
  have hxy : x2 = y2 := tell_same (P := fun t => t ∈ usersOf (pnL M) s) (fun h => HK1.out h) HK2.out (fun h => by rw [HPN.out]; exact hok2 (by rw [← HCL.out]; exact h)) (fun h => hno2 (by rw [← HCL.out]; exact h))
  subst hxy
  have hf := HF.out w15 hb15
  have hce := closE_le L [s]
  rw [HCL.out] at hf
  obtain ⟨R2, hR2⟩ : ∃ R, closE L [s] = R := ⟨_, rfl⟩
  rw [hR2] at hf hce ⊢
  obtain ⟨c2, at2⟩ := R2
  simp only at hf hce
  have hfb := HFB4.out.below hb15 HFB4.out.lt
  have f0 := hfb.frozen 0
  have f1 := hfb.frozen 1
  have y0 := hfb.cell (i := 0) rfl
  have y1 := hfb.cell (i := 1) rfl
  have hfb2 := (hfb.set 0 (.int .i64 (c2 : Int))).set 1 (.int .i64 at2)
  have hB16 := (hB15.setCell (p := ⟨fb, 0, none⟩) HLO.out (.int .i64 (c2 : Int))).setCell (p := ⟨fb, 1, none⟩) HLO.out (.int .i64 at2)
  have hx16 := txi_set (HX.out w15 hb15) hfb (.int .i64 (c2 : Int)) (.int .i64 at2)
  have hy16 := txi_set hy hfb (.int .i64 (c2 : Int)) (.int .i64 at2)
  have hf16 := fav_set hf hfb (.int .i64 (c2 : Int)) (.int .i64 at2)
  have HCE2 := hidd hce
  have HFB5 := hidd hfb2
  have HX16 := hidd hx16
  have HY16 := hidd hy16
  have HF16 := hidd hf16
  have HB16 := hidd hB16
  unfold fauV
  clear hf hce HF HCO hok2 hno2 hy HK1 HK2 HX hR2 hb15 hfb hfb2 hB16 hx16 hy16 hf16 HFB4
  go_upto_region 15 with fail
  have hfb := HFB5.out
  have hx16 := HX16.out
  have hy16 := HY16.out
  have hf16 := HF16.out
  have hB16 := HB16.out
  clear HFB5 HX16 HY16 HF16 HB16 f0 f1 y0 y1 hB15 hB14
  generalize (w15.setCell ⟨fb, 0, none⟩ (.int .i64 (c2 : Int))).setCell ⟨fb, 1, none⟩ (.int .i64 at2) = w16 at *
  have HFT := hidd (fav_true hf16 HCE2.out (Below.refl _ _) (HE8.out w16 hB16) (HHn8.out w16 hB16))
  have e0 := hfb.cell (i := 0) rfl
  have e1 := hfb.cell (i := 1) rfl
  have HX := hidd hx16
  have HY := hidd hy16
  have HFB := hidd hfb
  clear hx16 hy16 hf16 hfb HCE2
  go_wp2_with fail
  refine HFT.out.mono ?_
  rintro e w17 ⟨rfl, hb17⟩
  have hB17 := below_step hB16 hb17
  have hst := sameTexts_any _ _ _ _ w17 (HX.out.ob hb17).1 (HY.out.ob hb17).1
  have htt : decide (x2 = x2) = true := decide_eq_true rfl
  rw [htt] at hst
  have HST := hidd hst
  have HFB2 := hidd (HFB.out.below hb17 HFB.out.lt)
  clear hst htt HFT HX HY hb17 hB16 HFB e0 e1
  go_wp2_with fail
  refine HST.out.mono ?_
  rintro e w18 ⟨rfl, hb18⟩
  have hB18 := below_step hB17 hb18
  have HFB3 := hidd (HFB2.out.below hb18 HFB2.out.lt)
  have HDE := hidd (dead_any E B M names _ _ w18 (HM8.out w18 hB18) (HO.out w18 hB18) (HE8.out w18 hB18) (by omega))
  clear HST hB17 hb18 HFB2
  go_wp2_with fail
  refine HDE.out.mono ?_
  rintro e w19 ⟨x3, xa3, xc3, ev3, rfl, hf, hx, hb19, hok, hno⟩
  have hB19 := below_step hB18 hb19
  have HFB4 := hidd (HFB3.out.below hb19 HFB3.out.lt)
  have HX := hidd (fun W (hW : Below w19.heap.size w19 W) => hx.ob hW)
  have HF := hidd (fun W (hW : Below w19.heap.size w19 W) => hf.ob hW)
  have HK1 := hidd (fun h => (hok h).2.2)
  have HK2 := hidd hno
  have HCO := hidd (deadOf_any L names _ _ w19 (HP8.out w19 hB19) (HU8.out w19 hB19) (by omega))
  clear hx hf hok hno HDE hb19 hB18 HFB3
  go_wp2_with fail
  refine HCO.out.mono ?_
  rintro e w20 ⟨y3, ya3, yc3, rfl, hy, hb20, hok2, hno2⟩
  have hB20 := below_step hB19 hb20
  have hxy : x3 = y3 := tell_dead (p := pnL M) (names := names) HK1.out HK2.out (fun h => by rw [HPN.out]; exact hok2 (by rw [← HCL.out]; exact h)) (fun h => hno2 (by rw [← HCL.out]; exact h))
  subst hxy
  have hf := HF.out w20 hb20
  rw [HCL.out, HR1.out] at hf
  rw [HR1.out]
  simp only at hf
  have hce : c1 ≤ 10 := by have := closE_le L names; rw [HR1.out] at this; exact this
  have hfb := HFB4.out.below hb20 HFB4.out.lt
  have f0 := hfb.frozen 0
  have f1 := hfb.frozen 1
  have y0 := hfb.cell (i := 0) rfl
  have y1 := hfb.cell (i := 1) rfl
  have hfb2 := (hfb.set 0 (.int .i64 (c1 : Int))).set 1 (.int .i64 at1)
  have hB21 := (hB20.setCell (p := ⟨fb, 0, none⟩) HLO.out (.int .i64 (c1 : Int))).setCell (p := ⟨fb, 1, none⟩) HLO.out (.int .i64 at1)
  have hx21 := txi_set (HX.out w20 hb20) hfb (.int .i64 (c1 : Int)) (.int .i64 at1)
  have hy21 := txi_set hy hfb (.int .i64 (c1 : Int)) (.int .i64 at1)
  have hf21 := fav_set hf hfb (.int .i64 (c1 : Int)) (.int .i64 at1)
  have HCE2 := hidd hce
  have HFB5 := hidd hfb2
  have HX21 := hidd hx21
  have HY21 := hidd hy21
  have HF21 := hidd hf21
  have HB21 := hidd hB21
  unfold fauV
  clear hf hce HF HCO hok2 hno2 hy HK1 HK2 HX hb20 hfb hfb2 hB21 hx21 hy21 hf21 HFB4
  go_upto_region 19 with fail
  have hfb := HFB5.out
  have hx21 := HX21.out
  have hy21 := HY21.out
  have hf21 := HF21.out
  have hB21 := HB21.out
  clear HFB5 HX21 HY21 HF21 HB21 f0 f1 y0 y1 hB20 hB19
  generalize (w20.setCell ⟨fb, 0, none⟩ (.int .i64 (c1 : Int))).setCell ⟨fb, 1, none⟩ (.int .i64 at1) = w21 at *
  have HFT := hidd (fav_true hf21 HCE2.out (Below.refl _ _) (HE8.out w21 hB21) (HHn8.out w21 hB21))
  have e0 := hfb.cell (i := 0) rfl
  have e1 := hfb.cell (i := 1) rfl
  have HX := hidd hx21
  have HY := hidd hy21
  clear hx21 hy21 hf21 hfb HCE2
  go_wp2_with fail
  refine HFT.out.mono ?_
  rintro e w22 ⟨rfl, hb22⟩
  have hB22 := below_step hB21 hb22
  have hst := sameTexts_any _ _ _ _ w22 (HX.out.ob hb22).1 (HY.out.ob hb22).1
  have htt : decide (x3 = x3) = true := decide_eq_true rfl
  rw [htt] at hst
  have HST := hidd hst
  clear hst htt HFT HX HY hb22 hB21 e0 e1
  go_wp2_with fail
  refine HST.out.mono ?_
  rintro e w23 ⟨rfl, hb23⟩
  have hB23 := below_step hB22 hb23
  clear HST hB22 hb23
  go_wp2_with fail
  go_ret
  exact ⟨rfl, below_step HB8.out hB23⟩
end Go.Proofs.YtlcabkhalockpaaGreatDoor
