/- stillroomlaw1.TreeSums, walked. Condition: the tree is there, the variables read as listed. -/
import Derived.Test.YtccplkbbaodpeaaDoorTrU
import Derived.Test.YtccplkbbaodpeaaDoorTrT
import Derived.Test.YtccplkbbaodpeaaDoorTrD
import Derived.Test.YtccplkbbaodpeaaDoorTrE
import Derived.Test.YtccplkbbaodpeaaDoorTrO
namespace Go.Proofs.YtccplkbbaodpeaaDoor
open Go.RowKit Go.Shelf

set_option maxRecDepth 100000 in
set_option maxHeartbeats 40000000 in
theorem sums_true (E : Nat → Addr) (B : Nat) (t : Lt) (w : World) (ht : t.Ok w) (hE : Env codeGs B w E) (hh : Hnd w) :
    Calls Tryd.prog 4 #[nval t] w fun e w' => e = .returned (.bool true) ∧ Below w.heap.size w w' := by
  obtain ⟨a, cap, hv⟩ := ht.shape
  have hB1 : Below w.heap.size w (w.alloc (.cells #[.string t.kind, .string t.data, .bool t.exec, .slice a t.kids.length cap] 24)) := (Below.refl _ _).alloc (Nat.le_refl _) _
  have hb1 := Blk.new w [.string t.kind, .string t.data, .bool t.exec, .slice a t.kids.length cap] 24
  have hE1 := hE.ob hB1
  have hh1 := hh.below hB1 (Nat.le_refl _)
  have ht1 := ht.ob hB1
  have HLG := hidd (fun W (h : t.Ok W) => large_any t 100 W h (by omega))
  have HOW := hidd (fun W (h : t.Ok W) (hs : t.sz ≤ 300) => own_any 300 t W hs (Nat.le_refl _) h)
  unfold nval at HLG HOW ⊢
  rw [hv] at HLG HOW ⊢
  have HO1 := hidd ht1
  clear hv ht1
  go_enter Tryd.func4, Tryd.ntmps4
  go_wp2_with fail
  refine (treed_true E B _ hE1 hh1).mono ?_
  rintro e w2 ⟨rfl, hb2⟩
  have hB2 := hB1.trans (hb2.mono hB1.size)
  have hk2 := hb1.below hb2 hb1.lt
  have x0 := hk2.cell (i := 0) rfl
  have x1 := hk2.cell (i := 1) rfl
  have x2 := hk2.cell (i := 2) rfl
  have x3 := hk2.cell (i := 3) rfl
  have hE2 := hE1.ob hb2
  have HO2 := hidd (HO1.out.ob hb2)
  clear hE1 hh1 hb1 HO1 hb2 hB1 hh
  go_wp2_with fail
  refine (HLG.out _ HO2.out).mono ?_
  rintro e w3 ⟨hres, hb3⟩
  have hB3 := hB2.trans (hb3.mono hB2.size)
  have hk3 := hk2.below hb3 hk2.lt
  have y0 := hk3.cell (i := 0) rfl
  have y1 := hk3.cell (i := 1) rfl
  have y2 := hk3.cell (i := 2) rfl
  have y3 := hk3.cell (i := 3) rfl
  have hE3 := hE2.ob hb3
  have HO3 := hidd (HO2.out.ob hb3)
  clear hE2 HO2 hb3 hB2 hk2 x0 x1 x2 x3
  rcases hres with ⟨rfl, hsm⟩ | rfl
  · have hs300 : t.sz ≤ 300 := by have := hsm.many; omega
    clear hsm
    go_wp2_with fail
    refine (HOW.out _ HO3.out hs300).mono ?_
    rintro e w4 ⟨xa, xc, ks, rfl, hbr, hok, -, hb4⟩
    have hB4 := hB3.trans (hb4.mono hB3.size)
    have hE4 := hE3.ob hb4
    obtain ⟨kd, hkd⟩ : ∃ kd, t.kind = kd := ⟨_, rfl⟩
    obtain ⟨da, hda⟩ : ∃ da, t.data = da := ⟨_, rfl⟩
    obtain ⟨ex, hex⟩ : ∃ ex, t.exec = ex := ⟨_, rfl⟩
    rw [hkd, hda, hex] at hok hbr ⊢
    clear hE3 HO3 hb4 hB3 hbr hE ht y0 y1 y2 y3 hk3
    have hB5 : Below w4.heap.size w4 (w4.alloc (.cells #[.string kd, .string da, .bool ex, .slice xa ks.length xc] 24)) := (Below.refl _ _).alloc (Nat.le_refl _) _
    have hb5 := Blk.new w4 [.string kd, .string da, .bool ex, .slice xa ks.length xc] 24
    have hE5 := hE4.ob hB5
    have hok5 := hok.ob hB5
    have hle := hok.le
    simp only [Tr.kids] at hle
    have hBB5 := hB4.trans (hB5.mono hB4.size)
    have HS := hidd (fun W (h : (Tr.mk kd da ex (.slice xa ks.length xc) ks : Lt).Ok W) => same_any (Tr.mk kd da ex (.slice xa ks.length xc) ks : Lt) (Tr.mk kd da ex (.slice xa ks.length xc) ks : Lt) W true h h (by simp))
    have HK := hidd (fun W (h : (Tr.mk kd da ex (.slice xa ks.length xc) ks : Lt).Ok W) (hE : Env codeGs B W E) => check_any E B (Tr.mk kd da ex (.slice xa ks.length xc) ks : Lt) W h hE)
    have HN := hidd (fun W (h : (Tr.mk kd da ex (.slice xa ks.length xc) ks : Lt).Ok W) (hE : Env codeGs B W E) => count_any E B (Tr.mk kd da ex (.slice xa ks.length xc) ks : Lt) W h hE)
    have HZ := hidd (fun W (h : (Tr.mk kd da ex (.slice xa ks.length xc) ks : Lt).Ok W) (hE : Env codeGs B W E) => size_any E B (Tr.mk kd da ex (.slice xa ks.length xc) ks : Lt) W h hE)
    have HF := hidd (fun W (h : (Tr.mk kd da ex (.slice xa ks.length xc) ks : Lt).Ok W) (hE : Env codeGs B W E) => files_any E B (Tr.mk kd da ex (.slice xa ks.length xc) ks : Lt) W h hE)
    simp only [nval, Tr.kind, Tr.data, Tr.exec, Tr.v] at HS HK HN HZ HF
    clear hB4 hB5 hE4 hok
    by_cases h0 : treeE (Tr.mk kd da ex (.slice xa ks.length xc) ks : Lt) = 0
    · rw [h0, evc_zero] at HK
      by_cases hdir : kd = kDir
      · have q1 : (kd.toList == [100, 105, 114]) = true := by rw [hdir, Lib.toList_data]; rfl
        obtain ⟨s1, s2, s3⟩ := dir_sums (t := (Tr.mk kd da ex (.slice xa ks.length xc) ks : Lt)) h0 hdir
        have HKS := hidd (fun k (hk : k < ks.length) => kid_sums (t := (Tr.mk kd da ex (.slice xa ks.length xc) ks : Lt)) h0 (k := k) hk)
        have HKR := hidd (fun k (hk : k < ks.length) => (⟨kid_right (t := (Tr.mk kd da ex (.slice xa ks.length xc) ks : Lt)) h0 (x := ks[k]) (List.getElem_mem hk), own_names (treeE_own (t := (Tr.mk kd da ex (.slice xa ks.length xc) ks : Lt)) h0).1 ks[k] (List.getElem_mem hk)⟩ : treeE ks[k].2 = 0 ∧ isName ks[k].1 = true))
        obtain ⟨hfine, hsz⟩ := fine_of (t := (Tr.mk kd da ex (.slice xa ks.length xc) ks : Lt)) h0
        simp only [Tr.kids] at s1 s2 s3 HKS
        rw [s1] at HN
        rw [s2] at HZ
        have HBD := hidd (sums_bd (t := (Tr.mk kd da ex (.slice xa ks.length xc) ks : Lt)) (fun x hx => (hfine x hx).2) hsz)
        simp only [Tr.kids] at HBD
        have HS3 := hidd s3
        clear s1 s2 s3 hfine h0 hdir
        have HM := hidd hsz
        clear hsz
        go_wp2_with fail
        refine (HS.out _ hok5).mono ?_
        rintro e w6 ⟨rfl, hb6⟩
        have hE6 := hE5.ob hb6
        have hok6 := hok5.ob hb6
        have hk6 := hb5.below hb6 hb5.lt
        have x0 := hk6.cell (i := 0) rfl
        have x1 := hk6.cell (i := 1) rfl
        have x2 := hk6.cell (i := 2) rfl
        have x3 := hk6.cell (i := 3) rfl
        have hB6 := hBB5.trans (hb6.mono hBB5.size)
        clear hb6 hE5 hok5 hb5 hBB5
        go_wp2_with fail
        refine (HK.out _ hok6 hE6).mono ?_
        rintro e w7 ⟨rfl, hb7⟩
        have hE7 := hE6.ob hb7
        have hok7 := hok6.ob hb7
        have hk7 := hk6.below hb7 hk6.lt
        have y0 := hk7.cell (i := 0) rfl
        have hB7 := hB6.trans (hb7.mono hB6.size)
        clear hb7 hE6 hok6 hk6 hB6 x0 x1 x2 x3 HK
        go_wp2_with fail
        clear y0
        go_loopw [5, 6, 7, 8] (fun c z f i wr => ∃ k : Nat, k ≤ ks.length ∧ i = .int .i64 (k : Int) ∧ c = .int .i64 ((1 + Tr.szs (ks.take k) : Nat) : Int) ∧ z = .int .i64 ((fileSz (pres ⟨#[]⟩ 1 (ks.take k)) : Nat) : Int) ∧ f = .int .i64 (((fileL (pres ⟨#[]⟩ 1 (ks.take k))).length : Nat) : Int) ∧ Below w7.heap.size w7 wr) (fun _ _ _ i _ => ks.length - (intOf i).toNat)
        case atStart => exact ⟨0, Nat.zero_le _, rfl, rfl, rfl, rfl, Below.refl _ _⟩
        case round =>
          obtain ⟨k, hk, rfl, rfl, rfl, rfl, hbel⟩ := hrel
          have hBr := hB7.trans (hbel.mono hB7.size)
          have hEr := hE7.ob hbel
          have hkr := hk7.below hbel hk7.lt
          have hokr := hok7.ob hbel
          have z0 := hkr.cell (i := 0) rfl
          have z1 := hkr.cell (i := 1) rfl
          have z2 := hkr.cell (i := 2) rfl
          have z3 := hkr.cell (i := 3) rfl
          by_cases hlt : k < ks.length
          · obtain ⟨ka, kb, kc⟩ := HKS.out k hlt
            obtain ⟨kr, kn⟩ := HKR.out k hlt
            obtain ⟨bd1, bd2, bd3⟩ := HBD.out (k + 1)
            have hxk := hokr.get hlt
            have hnm := hokr.names _ (List.getElem_mem hlt)
            obtain ⟨b1, o1, rfl, hbl, a0, a1, a2, a3, a4⟩ := hokr.at5 rfl hlt
            obtain ⟨ya, yc, hyv⟩ := hxk.shape
            simp only [Tr.kids] at a0 a1 a2 a3 a4 hxk hnm hyv
            have p1 : (0 : Int) ≤ (k : Int) := by omega
            have p2 : (k : Int) < (ks.length : Int) := by omega
            generalize ks[k] = x at *
            obtain ⟨nx, ⟨kx, dx, ex', vx, ksx⟩⟩ := x
            simp only [Tr.kind, Tr.data, Tr.exec, Tr.v] at a0 a1 a2 a3 a4 hyv hnm kr kn hxk ka kb kc
            subst hyv
            have KK := hidd (fun W (h : (Tr.mk kx dx ex' (.slice ya ksx.length yc) ksx : Lt).Ok W) (hE : Env codeGs B W E) => check_any E B _ W h hE)
            have KN := hidd (fun W (h : (Tr.mk kx dx ex' (.slice ya ksx.length yc) ksx : Lt).Ok W) (hE : Env codeGs B W E) => count_any E B _ W h hE)
            have KZ := hidd (fun W (h : (Tr.mk kx dx ex' (.slice ya ksx.length yc) ksx : Lt).Ok W) (hE : Env codeGs B W E) => size_any E B _ W h hE)
            have KF := hidd (fun W (h : (Tr.mk kx dx ex' (.slice ya ksx.length yc) ksx : Lt).Ok W) (hE : Env codeGs B W E) => files_any E B _ W h hE)
            have KM := hidd (fun W => name_any nx W (by omega))
            rw [kr, evc_zero] at KK
            rw [kn] at KM
            obtain ⟨N1, hN1⟩ : ∃ N, (listed (Tr.mk kx dx ex' (.slice ya ksx.length yc) ksx : Lt)).length = N := ⟨_, rfl⟩
            obtain ⟨N2, hN2⟩ : ∃ N, fileSz (listed (Tr.mk kx dx ex' (.slice ya ksx.length yc) ksx : Lt)) = N := ⟨_, rfl⟩
            obtain ⟨L3, hL3⟩ : ∃ L, fileL (listed (Tr.mk kx dx ex' (.slice ya ksx.length yc) ksx : Lt)) = L := ⟨_, rfl⟩
            rw [hN1] at ka KN
            rw [hN2] at kb KZ
            rw [hL3] at kc KF
            obtain ⟨A1, hA1⟩ : ∃ A, Tr.szs (ks.take k) = A := ⟨_, rfl⟩
            obtain ⟨A2, hA2⟩ : ∃ A, fileSz (pres ⟨#[]⟩ 1 (ks.take k)) = A := ⟨_, rfl⟩
            obtain ⟨A3, hA3⟩ : ∃ A, (fileL (pres ⟨#[]⟩ 1 (ks.take k))).length = A := ⟨_, rfl⟩
            rw [hA1] at ka ⊢
            rw [hA2] at kb ⊢
            rw [hA3] at kc ⊢
            rw [ka] at bd1
            rw [kb] at bd2
            rw [kc] at bd3
            simp only [nval, Tr.kind, Tr.data, Tr.exec, Tr.v] at KK KN KZ KF
            have H1 := hidd ka
            have H2 := hidd kb
            have H3 := hidd kc
            have hBk : Below wr.heap.size wr (wr.alloc (.cells #[.string kx, .string dx, .bool ex', .slice ya ksx.length yc] 24)) := (Below.refl _ _).alloc (Nat.le_refl _) _
            have hbk := Blk.new wr [.string kx, .string dx, .bool ex', .slice ya ksx.length yc] 24
            have hok8 := hxk.ob hBk
            have hE8 := hEr.ob hBk
            clear ka kb kc hA1 hA2 hA3 hN1 hN2 hL3 kr kn hxk hnm hEr
            go_wp2_with fail
            refine (KK.out _ hok8 hE8).mono ?_
            rintro e w8 ⟨rfl, hb8⟩
            have hw8 : Below wr.heap.size wr w8 := hBk.trans (hb8.mono hBk.size)
            have hE9 := hE8.ob hb8
            have hok9 := hok8.ob hb8
            have hbk8 := hbk.below hb8 hbk.lt
            have v3 := (hkr.below hw8 hkr.lt).cell (i := 3) rfl
            have v0 := (hw8.cell (p := ⟨b1, _, none⟩) hbl).trans a0
            clear hb8 hE8 hok8 hbk hBk z0 z1 z2 z3 a0 a1 a2 a3 a4
            go_wp2_with fail
            refine (KM.out _).mono ?_
            rintro e w9 ⟨rfl, hb9⟩
            have hw9 : Below wr.heap.size wr w9 := hw8.trans (hb9.mono hw8.size)
            have hE10 := hE9.ob hb9
            have hok10 := hok9.ob hb9
            have hbk9 := hbk8.below hb9 hbk8.lt
            have c0 := hbk9.cell (i := 0) rfl
            have c1 := hbk9.cell (i := 1) rfl
            have c2 := hbk9.cell (i := 2) rfl
            have c3 := hbk9.cell (i := 3) rfl
            clear hb9 hE9 hok9 hbk8 v0 v3 hw8
            go_wp2_with fail
            refine (KF.out _ hok10 hE10).mono ?_
            rintro e w10 ⟨fv, rfl, hof, hb10⟩
            obtain ⟨fa, fc, rfl⟩ := hof.shape
            have hw10 : Below wr.heap.size wr w10 := hw9.trans (hb10.mono hw9.size)
            have hE11 := hE10.ob hb10
            have hok11 := hok10.ob hb10
            have hbk10 := hbk9.below hb10 hbk9.lt
            have d0 := hbk10.cell (i := 0) rfl
            have d1 := hbk10.cell (i := 1) rfl
            have d2 := hbk10.cell (i := 2) rfl
            have d3 := hbk10.cell (i := 3) rfl
            clear hb10 hE10 hok10 hbk9 c0 c1 c2 c3 hw9 hof
            go_wp2_with fail
            refine (KN.out _ hok11 hE11).mono ?_
            rintro e w11 ⟨rfl, hb11⟩
            have hw11 : Below wr.heap.size wr w11 := hw10.trans (hb11.mono hw10.size)
            have hE12 := hE11.ob hb11
            have hok12 := hok11.ob hb11
            have hbk11 := hbk10.below hb11 hbk10.lt
            have c0 := hbk11.cell (i := 0) rfl
            have c1 := hbk11.cell (i := 1) rfl
            have c2 := hbk11.cell (i := 2) rfl
            have c3 := hbk11.cell (i := 3) rfl
            clear hb11 hE11 hok11 hbk10 d0 d1 d2 d3 hw10
            go_wp2_with fail
            refine (KZ.out _ hok12 hE12).mono ?_
            rintro e w12 ⟨rfl, hb12⟩
            have hw12 : Below wr.heap.size wr w12 := hw11.trans (hb12.mono hw11.size)
            have hbelN := hbel.trans (hw12.mono hbel.size)
            clear hb12 hE12 hok12 hbk11 c0 c1 c2 c3 hw11 hw12
            go_wp2_with fail
            go_roundw
            case rel => exact ⟨k + 1, hlt, by go_num, by rw [H1.out]; exact congrArg (Value.int .i64) (by omega), by rw [H2.out]; exact congrArg (Value.int .i64) (by omega), by rw [H3.out]; exact congrArg (Value.int .i64) (by omega), hbelN⟩
            case measure => simp [intOf]; omega
          · obtain rfl : k = ks.length := by omega
            rw [List.take_of_length_le (Nat.le_refl _)]
            obtain ⟨bd1, bd2, bd3⟩ := HBD.out ks.length
            rw [List.take_of_length_le (Nat.le_refl _)] at bd1 bd2 bd3
            have HFF := hidd HS3.out
            obtain ⟨L3, hL3⟩ : ∃ L, fileL (listed (Tr.mk kd da ex (.slice xa ks.length xc) ks : Lt)) = L := ⟨_, rfl⟩
            rw [hL3] at HF HFF
            obtain ⟨A1, hA1⟩ : ∃ A, Tr.szs ks = A := ⟨_, rfl⟩
            obtain ⟨A2, hA2⟩ : ∃ A, fileSz (pres ⟨#[]⟩ 1 ks) = A := ⟨_, rfl⟩
            rw [hA1] at HN bd1 ⊢
            rw [hA2] at HZ bd2 ⊢
            rw [← HFF.out] at bd3 ⊢
            clear hA1 hA2 hL3 HFF HS3 HKS HKR HBD
            go_wp2_with fail
            refine (HF.out _ hokr hEr).mono ?_
            rintro e w10 ⟨fv, rfl, hof, hb10⟩
            obtain ⟨fa, fc, rfl⟩ := hof.shape
            have hw10 := hBr.trans (hb10.mono hBr.size)
            have hE11 := hEr.ob hb10
            have hok11 := hokr.ob hb10
            have hk10 := hkr.below hb10 hkr.lt
            have d0 := hk10.cell (i := 0) rfl
            have d1 := hk10.cell (i := 1) rfl
            have d2 := hk10.cell (i := 2) rfl
            have d3 := hk10.cell (i := 3) rfl
            clear hb10 hEr hokr hkr z0 z1 z2 z3 hof hBr
            go_wp2_with fail
            refine (HN.out _ hok11 hE11).mono ?_
            rintro e w11 ⟨rfl, hb11⟩
            have hw11 := hw10.trans (hb11.mono hw10.size)
            have hE12 := hE11.ob hb11
            have hok12 := hok11.ob hb11
            have hk11 := hk10.below hb11 hk10.lt
            have c0 := hk11.cell (i := 0) rfl
            have c1 := hk11.cell (i := 1) rfl
            have c2 := hk11.cell (i := 2) rfl
            have c3 := hk11.cell (i := 3) rfl
            clear hb11 hE11 hok11 hk10 d0 d1 d2 d3 hw10
            go_wp2_with fail
            refine (HZ.out _ hok12 hE12).mono ?_
            rintro e w12 ⟨rfl, hb12⟩
            have hw12 := hw11.trans (hb12.mono hw11.size)
            clear hb12 hE12 hok12 hk11 c0 c1 c2 c3 hw11
            go_wp2_with fail
            go_ret
            exact ⟨rfl, hw12⟩
      · have q1 : (kd.toList == [100, 105, 114]) = false := by rw [show ([100, 105, 114] : List UInt8) = kDir.toList by rw [Lib.toList_data]; rfl]; exact beq_str hdir
        rw [leaf_count (t := (Tr.mk kd da ex (.slice xa ks.length xc) ks : Lt)) h0 hdir] at HN
        clear h0 hdir
        go_wp2_with fail
        refine (HS.out _ hok5).mono ?_
        rintro e w6 ⟨rfl, hb6⟩
        have hE6 := hE5.ob hb6
        have hok6 := hok5.ob hb6
        have hk6 := hb5.below hb6 hb5.lt
        have x0 := hk6.cell (i := 0) rfl
        have x1 := hk6.cell (i := 1) rfl
        have x2 := hk6.cell (i := 2) rfl
        have x3 := hk6.cell (i := 3) rfl
        have hB6 := hBB5.trans (hb6.mono hBB5.size)
        clear hb6 hE5 hok5 hb5 hBB5
        go_wp2_with fail
        refine (HK.out _ hok6 hE6).mono ?_
        rintro e w7 ⟨rfl, hb7⟩
        have hE7 := hE6.ob hb7
        have hok7 := hok6.ob hb7
        have hk7 := hk6.below hb7 hk6.lt
        have y0 := hk7.cell (i := 0) rfl
        have y1 := hk7.cell (i := 1) rfl
        have y2 := hk7.cell (i := 2) rfl
        have y3 := hk7.cell (i := 3) rfl
        have hB7 := hB6.trans (hb7.mono hB6.size)
        clear hb7 hE6 hok6 hk6 hB6 x0 x1 x2 x3
        go_wp2_with fail
        refine (HN.out _ hok7 hE7).mono ?_
        rintro e w8 ⟨rfl, hb8⟩
        have hB8 := hB7.trans (hb8.mono hB7.size)
        clear hb8 hE7 hok7 hk7 hB7 y0 y1 y2 y3
        go_wp2_with fail
        go_ret
        exact ⟨rfl, hB8⟩
    · rw [evc_ne h0] at HK
      have hl0 : listed (Tr.mk kd da ex (.slice xa ks.length xc) ks : Lt) = [] := if_neg h0
      rw [hl0] at HN
      simp only [List.length_nil] at HN
      clear h0 hl0
      go_wp2_with fail
      refine (HS.out _ hok5).mono ?_
      rintro e w6 ⟨rfl, hb6⟩
      have hE6 := hE5.ob hb6
      have hok6 := hok5.ob hb6
      have hk6 := hb5.below hb6 hb5.lt
      have x0 := hk6.cell (i := 0) rfl
      have x1 := hk6.cell (i := 1) rfl
      have x2 := hk6.cell (i := 2) rfl
      have x3 := hk6.cell (i := 3) rfl
      have hB6 := hBB5.trans (hb6.mono hBB5.size)
      clear hb6 hE5 hok5 hb5 hBB5
      go_wp2_with fail
      refine (HK.out _ hok6 hE6).mono ?_
      rintro e w7 ⟨rfl, hb7⟩
      have hE7 := hE6.ob hb7
      have hok7 := hok6.ob hb7
      have hk7 := hk6.below hb7 hk6.lt
      have y0 := hk7.cell (i := 0) rfl
      have y1 := hk7.cell (i := 1) rfl
      have y2 := hk7.cell (i := 2) rfl
      have y3 := hk7.cell (i := 3) rfl
      have hB7 := hB6.trans (hb7.mono hB6.size)
      clear hb7 hE6 hok6 hk6 hB6 x0 x1 x2 x3
      go_wp2_with fail
      refine (HS.out _ hok7).mono ?_
      rintro e w8 ⟨rfl, hb8⟩
      have hE8 := hE7.ob hb8
      have hok8 := hok7.ob hb8
      have hk8 := hk7.below hb8 hk7.lt
      have x0 := hk8.cell (i := 0) rfl
      have x1 := hk8.cell (i := 1) rfl
      have x2 := hk8.cell (i := 2) rfl
      have x3 := hk8.cell (i := 3) rfl
      have hB8 := hB7.trans (hb8.mono hB7.size)
      clear hb8 hE7 hok7 hk7 hB7 y0 y1 y2 y3
      go_wp2_with fail
      refine (HN.out _ hok8 hE8).mono ?_
      rintro e w9 ⟨rfl, hb9⟩
      have hB9 := hB8.trans (hb9.mono hB8.size)
      clear hb9 hE8 hok8 hk8 hB8 x0 x1 x2 x3
      go_wp2_with fail
      go_ret
      exact ⟨rfl, hB9⟩
  · go_wp2_with fail
    go_ret
    exact ⟨rfl, hB3⟩
end Go.Proofs.YtccplkbbaodpeaaDoor
