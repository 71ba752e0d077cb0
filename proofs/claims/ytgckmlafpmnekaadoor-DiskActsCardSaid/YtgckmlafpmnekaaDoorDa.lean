/- The rounds of stillroomlaw2.DiskActs. Condition: the arguments are there, the sentinel errors read as listed. -/
import Derived.Test.YtgckmlafpmnekaaDoorDaE
namespace Go.Proofs.YtgckmlafpmnekaaDoor
open Go.RowKit Go.Shelf

structure ActD where
  kind : ByteArray
  s : ByteArray
  k : Int
  bit : Int
  keep : List Int

/-- The argument: a list of acts. -/
def ActsD (w : World) (a : Option Addr) (L : List ActD) : Prop :=
  ∀ i (h : i < L.length), ∃ b off ka kcap, a = some ⟨b, off, none⟩ ∧ w.cell? ⟨b, off + i * 5, none⟩ = some (.string L[i].kind) ∧ w.cell? ⟨b, off + i * 5 + 1, none⟩ = some (.string L[i].s) ∧ w.cell? ⟨b, off + i * 5 + 2, none⟩ = some (.int .i64 L[i].k) ∧
    w.cell? ⟨b, off + i * 5 + 3, none⟩ = some (.int .i64 L[i].bit) ∧ w.cell? ⟨b, off + i * 5 + 4, none⟩ = some (.slice ka L[i].keep.length kcap) ∧ Sl w (.slice ka L[i].keep.length kcap) (icells L[i].keep) L[i].keep.length 1

/-- A disk and its model in a round of the statement. -/
def DaR (w0 w : World) (p r q n m : Nat) : Prop := ∃ v lv wv ls ws, DaSt w0 w p r q v lv wv ls ls ws ws ∧ ls.length = n ∧ ws.length ≤ m ∧ Sz ls ws

set_option maxRecDepth 100000 in
set_option maxHeartbeats 40000000 in
theorem da_good (E : Nat → Addr) (n : Nat) (a : Option Addr) (cap : Nat) (L : List ActD) (s : ByteArray) (w : World) (henv : Env codeGs w.heap.size w E) (hh : Hnd w) (hn1 : 1 ≤ n) (hn2 : n ≤ 40) (hl : L.length ≤ 50) (hs : s.size ≤ 200) (hL : ActsD w a L) :
    Calls Tryd.prog 8 #[.int .i64 (n : Int), .slice a L.length cap, .string s] w fun e w' => e = .returned (.bool true) ∧ Below w.heap.size w w' := by
  have hl' : ¬ (50 : Int) < (L.length : Int) := by omega
  have hs' : ¬ (200 : Int) < (s.size : Int) := by omega
  have d1 : decide ((n : Int) < 1) = false := by simp; omega
  have d1' : decide (n < 1) = false := by simp; omega
  have d2 : decide ((40 : Int) < (n : Int)) = false := by simp; omega
  have d2' : decide (40 < n) = false := by simp; omega
  have d3 : decide ((512 : Int) < (n : Int)) = false := by simp; omega
  have d3' : decide (512 < n) = false := by simp; omega
  have hcrc := crcTo_lt s.data.toList
  have hcl : crc s.data.toList < 4294967296 := Nat.xor_lt_two_pow (n := 32) hcrc (by omega)
  obtain ⟨c, hc⟩ : ∃ c, crc s.data.toList = c := ⟨_, rfl⟩
  rw [hc] at hcl
  have HC := hidd hc
  clear hc hcrc
  go_enter Tryd.func8, Tryd.ntmps8
  go_wp2_with fail
  refine (spun_true w).mono ?_
  rintro e w1 ⟨rfl, hb1⟩
  go_wp2_with fail
  refine (sum_any s w1 (by unfold maxLen; omega)).mono ?_
  rintro e w1' ⟨rfl, rfl⟩
  rw [HC.out]
  go_wp2_with fail
  refine (rcrc_any s w1 (by omega)).mono ?_
  rintro e w1' ⟨rfl, rfl⟩
  rw [HC.out]
  go_wp2_with fail
  refine (dnew_ok n w1 hn1 (by omega)).mono ?_
  rintro e w2 ⟨p, r, rfl, hdk, hp, hr, hb2⟩
  have hB2 := hb1.trans (hb2.mono hb1.size)
  clear HC hcl
  go_wp2_with fail
  refine (rnew_any n w2 (by omega)).mono ?_
  rintro e w3 ⟨q, lv, rfl, hdr, hq, hlv, hb3⟩
  have hB3 := hB2.trans (hb3.mono hB2.size)
  have hst0 : DaSt w w3 p r q (.slice none 0 0) lv (.slice none 0 0) (List.replicate n (zb 16)) (List.replicate n (zb 16)) [] [] := by
    have h2 := hdk.lt
    refine ⟨hdk.ob hb3 (Nat.le_refl _), hdr, fun b hb => ?_, fun b hb => ?_, fun b hb hd => ?_, hB3⟩
    · rcases hb with rfl | rfl | hb
      · exact Nat.le_trans hb1.size hp
      · exact Nat.le_trans hb1.size hr
      · simp [Value.ownBlock] at hb
    · rcases hd' : hb with rfl | hb | hb
      · exact Nat.le_trans hB2.size hq
      · exact Nat.le_trans hB2.size (hlv b hb)
      · simp [Value.ownBlock] at hb
    · have h3 := h2 b hb
      rcases hd with rfl | hd | hd
      · omega
      · have := hlv b hd; omega
      · simp [Value.ownBlock] at hd
  clear hdk hp hr hb1 hb2 hB2 hdr hq hlv hb3 hB3
  go_wp2_with fail
  go_loopw [11] (fun t wr => ∃ i : Nat, i ≤ L.length ∧ t = .int .i64 (i : Int) ∧ DaR w wr p r q n i) (fun t _ => L.length - (intOf t).toNat)
  case atStart => exact ⟨0, Nat.zero_le _, rfl, _, _, _, _, _, hst0, by simp, Nat.le_refl _, Sz.zero n⟩
  case round =>
    obtain ⟨i, hi, rfl, v, lv1, wv, ls, ws, hst, hln, hwl0, hsz⟩ := hrel
    have HLN := hidd hln
    clear hst0 hln
    by_cases hlt : i < L.length
    · have hi1 : i + 1 ≤ L.length := hlt
      obtain ⟨b, off, ka, kcap, rfl, c0, c1, c2, c3, c4, hks⟩ := hL i hlt
      have hB := hst.below
      rw [← hB.cell (World.block_lt_of_cell? w _ c0)] at c0
      rw [← hB.cell (World.block_lt_of_cell? w _ c1)] at c1
      rw [← hB.cell (World.block_lt_of_cell? w _ c2)] at c2
      rw [← hB.cell (World.block_lt_of_cell? w _ c3)] at c3
      rw [← hB.cell (World.block_lt_of_cell? w _ c4)] at c4
      have q1 : (0 : Int) ≤ (i : Int) := by omega
      have q2 : (i : Int) < (L.length : Int) := by omega
      rcases hx : L[i] with ⟨kd, xs, xk, xb, xkeep⟩
      simp only [hx] at c0 c1 c2 c3 c4 hks
      clear hx
      have hq0 := Blk.new wr [.string kd, .string xs, .int .i64 xk, .int .i64 xb, .slice ka xkeep.length kcap] 40
      have hst1 := hst.ob ((Below.refl wr.heap.size wr).alloc (Nat.le_refl _) (.cells [.string kd, .string xs, .int .i64 xk, .int .i64 xb, .slice ka xkeep.length kcap].toArray 40)) (Nat.le_refl _)
      have eW : wr.alloc (.cells [.string kd, .string xs, .int .i64 xk, .int .i64 xb, .slice ka xkeep.length kcap].toArray 40) = wr.alloc (.cells #[.string kd, .string xs, .int .i64 xk, .int .i64 xb, .slice ka xkeep.length kcap] 40) := rfl
      rw [eW] at hq0 hst1
      have haq : ∀ b, dkS p r v b ∨ drS q lv1 wv b → b < wr.heap.size := fun b hb => hb.elim (hst.dk.lt b) (hst.dr.lt b)
      clear eW hst hB
      by_cases h40 : 40 < xs.size
      · have h40' : (40 : Int) < (xs.size : Int) := by omega
        have hB1 := hst1.below
        go_wp2_with fail
        go_ret
        exact ⟨rfl, hB1⟩
      · have h40' : ¬ (40 : Int) < (xs.size : Int) := by omega
        by_cases h60 : 60 < xkeep.length
        · have h60' : (60 : Int) < (xkeep.length : Int) := by omega
          have hB1 := hst1.below
          go_wp2_with fail
          go_ret
          exact ⟨rfl, hB1⟩
        · have h60' : ¬ (60 : Int) < (xkeep.length : Int) := by omega
          go_upto_region 18 with fail
          generalize wr.alloc _ = W0 at *
          generalize wr.heap.size = aq at *
          have ck := hq0.cell (i := 2) (v := .int .i64 xk) rfl
          go_cut [13] from 76 to 189 (fun f wx => f = .bool (!(badK n xk)) ∧ wx = W0)
          case first =>
            have hd : (0 ≤ xk ∧ decide (0 ≤ xk) = true ∧ xk < (n : Int) ∧ decide (xk < (n : Int)) = true ∧ badK n xk = false) ∨ (0 ≤ xk ∧ decide (0 ≤ xk) = true ∧ ¬ xk < (n : Int) ∧ decide (xk < (n : Int)) = false ∧ badK n xk = true) ∨ (¬ 0 ≤ xk ∧ decide (0 ≤ xk) = false ∧ badK n xk = true) := by
              unfold badK
              by_cases g1 : 0 ≤ xk
              · by_cases g2 : xk < (n : Int)
                · left; refine ⟨g1, by simpa using g1, g2, by simpa using g2, ?_⟩; simp; omega
                · right; left; refine ⟨g1, by simpa using g1, g2, by simpa using g2, ?_⟩; simp; omega
              · right; right; refine ⟨g1, by simpa using g1, ?_⟩; simp; omega
            rcases hd with ⟨g1, g2, g3, g4, g5⟩ | ⟨g1, g2, g3, g4, g5⟩ | ⟨g1, g2, g5⟩
            all_goals
              have HG5 := hidd g5
              clear g5
              go_wp2_with fail
              go_meet
              exact ⟨by rw [HG5.out]; rfl, rfl⟩
          case rest =>
            obtain ⟨rfl, rfl⟩ := hcut
            clear ck
            have ckd := hq0.cell (i := 0) (v := .string kd) rfl
            cases hk1 : kd.toList == [119, 114, 105, 116, 101]
            · cases hk2 : kd.toList == [98, 97, 114, 114, 105, 101, 114]
              · cases hk3 : kd.toList == [99, 114, 97, 115, 104]
                · as_aux_lemma =>
                  have ckk := hq0.cell (i := 2) (v := .int .i64 xk) rfl
                  have ckb := hq0.cell (i := 3) (v := .int .i64 xb) rfl
                  have hbq := hq0.lt
                  have haq2 : ∀ b, drS q lv1 wv b → b ≠ aq := fun b hb e => by have := haq b (.inr hb); omega
                  by_cases hok : badK n xk = false ∧ 0 ≤ xb ∧ xb < 128
                  · obtain ⟨hb0, hb1, hb2⟩ := hok
                    obtain ⟨hk0, hkn⟩ : 0 ≤ xk ∧ xk < (n : Int) := by
                      unfold badK at hb0
                      simp at hb0
                      omega
                    obtain ⟨kk, rfl⟩ := Int.eq_ofNat_of_zero_le hk0
                    obtain ⟨bb, rfl⟩ := Int.eq_ofNat_of_zero_le hb1
                    have hkl : kk < ls.length := by have := HLN.out; omega
                    have hbb : bb < 128 := by omega
                    have e1 : decide ((bb : Int) < 0) = false := by simp
                    have e2 : decide ((128 : Int) ≤ (bb : Int)) = false := by simp; omega
                    have e3 : decide (128 ≤ bb) = false := by simpa using hbb
                    rw [hb0]
                    clear hk0 hb0 hb1 hb2
                    go_wp2_with fail
                    refine (rrot_any q _ _ _ _ kk bb _ hst1.dr hsz hkl hbb).mono ?_
                    rintro e W4 ⟨⟨u, rfl⟩, hdr4, hf4⟩
                    have hst4 := hst1.model hdr4 (fun b hb => .inl hb) hf4
                    have hq4 := hq0.fr hf4 (fun e => haq2 aq e rfl)
                    have ckk := hq4.cell (i := 2) (v := .int .i64 (kk : Int)) rfl
                    have ckb := hq4.cell (i := 3) (v := .int .i64 (bb : Int)) rfl
                    clear hst1 hdr4 hf4 hq0
                    go_wp2_with fail
                    refine (rot_ok p r _ _ _ kk bb W4 hst4.dk hsz hkl hbb).mono ?_
                    rintro e W5 ⟨rfl, hdk5, hf5⟩
                    have hst5 := hst4.real hdk5 (fun b hb => .inl hb) hf5
                    clear hst4 hdk5 hf5 hq4
                    go_wp2_with fail
                    refine (coded2 E w.heap.size W5 (henv.below hst5.below (Nat.le_refl _)) (hh.below hst5.below (Nat.le_refl _)) .nilIface 0 (.inl ⟨rfl, rfl⟩) 0).mono ?_
                    rintro e W6 ⟨rfl, hb6⟩
                    have z : decide (((0 : Nat) : Int) = 0) = true := rfl
                    rw [z]
                    have hst := hst5.ob hb6 (Nat.le_refl _)
                    have hsz1 := hsz.rotD kk bb
                    have hwl : (turnW kk bb ws).length ≤ i + 1 := by simp [turnW]; omega
                    have HLN1 : Hid ((ls.set kk (turn (ls.getD kk ByteArray.empty) bb)).length = n) := by rw [List.length_set]; exact hidd HLN.out
                    clear hst5 hb6 z hsz hwl0 hkl hbb HLN
                    generalize turnW kk bb ws = ws1 at *
                    generalize ls.set kk (turn (ls.getD kk ByteArray.empty) bb) = ls1 at *
                    go_wp2_with fail
                    generalize W6 = W at *
                    obtain ⟨wa, wcap, rfl⟩ := hst.dr.wait.shape
                    have hcw : W.cell? ⟨q, 1, none⟩ = some (.slice wa ws1.length wcap) := hst.dr.head.cell rfl
                    have hdkd := hst.dk.ob ((Below.refl W.heap.size W).drew) (Nat.le_refl _)
                    have hstd := hst.ob ((Below.refl W.heap.size W).drew) (Nat.le_refl _)
                    have hcwd : W.drew.cell? ⟨q, 1, none⟩ = some (.slice wa ws1.length wcap) := hcw
                    have hn1' : ((n : Int) != (n : Int)) = false := by simp
                    have hw1' : ((ws1.length : Int) != (ws1.length : Int)) = false := by simp
                    have hwl3 : ws1.length ≤ 60 := by omega
                    have HWL := hidd hwl
                    have HSZ := hidd hsz1
                    clear hst hcw hwl hsz1
                    go_region_held3 (fun W' => W'.cell? ⟨q, 1, none⟩ = some (.slice wa ws1.length wcap) ∧ W' = W.drew)
                      (first | exact ⟨hcwd, rfl⟩)
                      (first | (go_at_call 20; refine (waits_any p r _ _ _ _ hdkd).mono ?_; rintro e w' ⟨rfl, rfl⟩) | (go_at_call 50; refine (len_any p r _ _ _ _ hdkd).mono ?_; rintro e w' ⟨rfl, rfl⟩; rw [HLN1.out]))
                    go_wp2_with fail
                    go_roundw
                    case rel => exact ⟨i + 1, by omega, by go_num, _, _, _, _, _, hstd, HLN1.out, HWL.out, HSZ.out⟩
                    case measure => simp [intOf]; omega
                  · have HB : Hid (badK ls.length xk = true ∨ xb < 0 ∨ 128 ≤ xb) := by
                      rw [HLN.out]
                      refine hidd ?_
                      cases hb0 : badK n xk
                      · right
                        by_cases g1 : xb < 0
                        · exact .inl g1
                        · right
                          apply Int.le_of_not_gt
                          intro g2
                          exact hok ⟨hb0, by omega, by omega⟩
                      · exact .inl rfl
                    have hd : badK n xk = true ∨ (badK n xk = false ∧ decide (xb < 0) = true) ∨ (badK n xk = false ∧ decide (xb < 0) = false ∧ decide (128 ≤ xb) = true) := by
                      cases hb0 : badK n xk
                      · right
                        by_cases g1 : xb < 0
                        · left; exact ⟨rfl, by simpa using g1⟩
                        · right
                          refine ⟨rfl, by simpa using g1, ?_⟩
                          simp
                          apply Int.le_of_not_gt
                          intro g2
                          exact hok ⟨hb0, by omega, by omega⟩
                      · exact .inl rfl
                    clear hok
                    rcases hd with hb0 | ⟨hb0, z1⟩ | ⟨hb0, z1, z2⟩
                    all_goals
                      rw [hb0]
                      clear hb0
                      go_wp2_with fail
                      refine (rot_bad E p r _ _ _ xk xb _ hst1.dk HB.out _ _ (henv.below hst1.below (Nat.le_refl _)) (by decide)).mono ?_
                      rintro e W5 ⟨rfl, rfl⟩
                      unfold erv
                      go_wp2_with fail
                      refine (coded2 E w.heap.size _ (henv.below hst1.below (Nat.le_refl _)) (hh.below hst1.below (Nat.le_refl _)) (.iface 113 (.pointer (some (E 1)))) 2 (.inr ⟨1, by omega, rfl, rfl⟩) 2).mono ?_
                      rintro e W6 ⟨rfl, hb6⟩
                      have z : decide (((2 : Nat) : Int) = 2) = true := rfl
                      rw [z]
                      have hst := hst1.ob hb6 (Nat.le_refl _)
                      have hsz1 := hsz
                      have hwl : ws.length ≤ i + 1 := by omega
                      have HLN1 := HLN
                      clear hst1 hb6 z hsz hwl0 HB
                      generalize ws = ws1 at *
                      go_wp2_with fail
                      generalize W6 = W at *
                      obtain ⟨wa, wcap, rfl⟩ := hst.dr.wait.shape
                      have hcw : W.cell? ⟨q, 1, none⟩ = some (.slice wa ws1.length wcap) := hst.dr.head.cell rfl
                      have hdkd := hst.dk.ob ((Below.refl W.heap.size W).drew) (Nat.le_refl _)
                      have hstd := hst.ob ((Below.refl W.heap.size W).drew) (Nat.le_refl _)
                      have hcwd : W.drew.cell? ⟨q, 1, none⟩ = some (.slice wa ws1.length wcap) := hcw
                      have hn1' : ((n : Int) != (n : Int)) = false := by simp
                      have hw1' : ((ws1.length : Int) != (ws1.length : Int)) = false := by simp
                      have hwl3 : ws1.length ≤ 60 := by omega
                      have HWL := hidd hwl
                      have HSZ := hidd hsz1
                      clear hst hcw hwl hsz1
                      go_region_held3 (fun W' => W'.cell? ⟨q, 1, none⟩ = some (.slice wa ws1.length wcap) ∧ W' = W.drew)
                        (first | exact ⟨hcwd, rfl⟩)
                        (first | (go_at_call 20; refine (waits_any p r _ _ _ _ hdkd).mono ?_; rintro e w' ⟨rfl, rfl⟩) | (go_at_call 50; refine (len_any p r _ _ _ _ hdkd).mono ?_; rintro e w' ⟨rfl, rfl⟩; rw [HLN1.out]))
                      go_wp2_with fail
                      go_roundw
                      case rel => exact ⟨i + 1, by omega, by go_num, _, _, _, _, _, hstd, HLN1.out, HWL.out, HSZ.out⟩
                      case measure => simp [intOf]; omega
                · as_aux_lemma =>
                  have ckk := hq0.cell (i := 4) (v := .slice ka xkeep.length kcap) rfl
                  have hks0 := hks.ob hst1.below (Nat.le_refl _)
                  have hbq := hq0.lt
                  have haq2 : ∀ b, dkS p r v b → b ≠ aq := fun b hb e => by have := haq b (.inl hb); omega
                  have hlow : 0 < xkeep.length → ∀ b, (Value.slice ka xkeep.length kcap).ownBlock = some b → ¬ lv1.ownBlock = some b := fun h0 b hb he => by
                    have h2 := hst1.ok2 b (.inr (.inl he))
                    obtain ⟨kb, ko, rfl, hkb, -⟩ := hks.at1 h0
                    simp [Value.ownBlock] at hb
                    omega
                  go_wp2_with fail
                  refine (ownInts_any _ xkeep _ hks0 (by omega)).mono ?_
                  rintro e W3 ⟨oa, oc, rfl, ho, hb3⟩
                  have hst3 := hst1.ob hb3 (Nat.le_refl _)
                  have hq3 := hq0.below hb3 hbq
                  have hks3 := hks0.ob hb3 (Nat.le_refl _)
                  have hos := ho.sl
                  have hop : ∀ b, (Value.slice oa xkeep.length oc).ownBlock = some b → b ≠ p ∧ b ≠ r := fun b e => by
                    have h1 := (ho.blk b e).1
                    have h2 := hst1.dk.lt p (.inl rfl)
                    have h3 := hst1.dk.lt r (.inr (.inl rfl))
                    omega
                  clear hst1 hks0 ho hb3 ckk ckd hq0
                  go_wp2_with fail
                  refine (crash_any p r _ _ _ _ xkeep W3 hst3.dk hos hop).mono ?_
                  rintro e W4 ⟨⟨u, rfl⟩, hdk4, hf4⟩
                  have hst4 := hst3.real hdk4 (fun b hb => by simp [Value.ownBlock] at hb) (hf4.mono (fun b _ hb => hb.elim .inl (fun e => .inr (.inl e))))
                  have hq4 := hq3.fr hf4 (fun e => e.elim (fun e => haq2 p (.inl rfl) e.symm) (fun e => haq2 r (.inr (.inl rfl)) e.symm))
                  have hks4 : Sl W4 (.slice ka xkeep.length kcap) (icells xkeep) xkeep.length 1 := hks.ob hst4.below (Nat.le_refl _)
                  have ckk := hq4.cell (i := 4) (v := .slice ka xkeep.length kcap) rfl
                  have hsz1 := hsz.cr (keptB xkeep)
                  have hlpos := hst3.dk.pos
                  have HLN1 : Hid ((crTo (keptB xkeep) ls ws ws.length).length = n) := by rw [crTo_len]; exact hidd HLN.out
                  clear hst3 hq3 hks3 hos hop hdk4 hf4 hsz hks
                  go_wp2_with fail
                  refine (rcrash_any q _ _ _ _ _ xkeep false W4 hst4.dr hlpos hks4 hlow).mono ?_
                  rintro e W5 ⟨⟨u, rfl⟩, hdr5, hf5⟩
                  have hst := hst4.model hdr5 (fun b hb => by simp [Value.ownBlock] at hb) hf5
                  have hwl : ([] : List (Nat × ByteArray)).length ≤ i + 1 := by simp
                  have hceq : crTo (fun i => false || keptB xkeep i) ls ws ws.length = crTo (keptB xkeep) ls ws ws.length := rfl
                  rw [hceq] at hst
                  clear hst4 hdr5 hf5 hceq hwl0 HLN hks4 hlow ckk hq4
                  generalize crTo (keptB xkeep) ls ws ws.length = ls1 at *
                  generalize ([] : List (Nat × ByteArray)) = ws1 at *
                  generalize (Value.slice none 0 0) = v1 at *
                  go_wp2_with fail
                  generalize W5 = W at *
                  obtain ⟨wa, wcap, rfl⟩ := hst.dr.wait.shape
                  have hcw : W.cell? ⟨q, 1, none⟩ = some (.slice wa ws1.length wcap) := hst.dr.head.cell rfl
                  have hdkd := hst.dk.ob ((Below.refl W.heap.size W).drew) (Nat.le_refl _)
                  have hstd := hst.ob ((Below.refl W.heap.size W).drew) (Nat.le_refl _)
                  have hcwd : W.drew.cell? ⟨q, 1, none⟩ = some (.slice wa ws1.length wcap) := hcw
                  have hn1' : ((n : Int) != (n : Int)) = false := by simp
                  have hw1' : ((ws1.length : Int) != (ws1.length : Int)) = false := by simp
                  have hwl3 : ws1.length ≤ 60 := by omega
                  have HWL := hidd hwl
                  have HSZ := hidd hsz1
                  clear hst hcw hwl hsz1
                  go_region_held3 (fun W' => W'.cell? ⟨q, 1, none⟩ = some (.slice wa ws1.length wcap) ∧ W' = W.drew)
                    (first | exact ⟨hcwd, rfl⟩)
                    (first | (go_at_call 20; refine (waits_any p r _ _ _ _ hdkd).mono ?_; rintro e w' ⟨rfl, rfl⟩) | (go_at_call 50; refine (len_any p r _ _ _ _ hdkd).mono ?_; rintro e w' ⟨rfl, rfl⟩; rw [HLN1.out]))
                  go_wp2_with fail
                  go_roundw
                  case rel => exact ⟨i + 1, by omega, by go_num, _, _, _, _, _, hstd, HLN1.out, HWL.out, HSZ.out⟩
                  case measure => simp [intOf]; omega
              · as_aux_lemma =>
                go_wp2_with fail
                refine (barrier_any p r _ _ _ _ hst1.dk).mono ?_
                rintro e W4 ⟨⟨u, rfl⟩, hdk4, hf4⟩
                have hst4 := hst1.real hdk4 (fun b hb => by simp [Value.ownBlock] at hb) (hf4.mono (fun b _ hb => hb.elim .inl (fun e => .inr (.inl e))))
                have hsz1 := hsz.cr (fun _ => true)
                have hlpos := hst1.dk.pos
                have HLN1 : Hid ((crTo (fun _ => true) ls ws ws.length).length = n) := by rw [crTo_len]; exact hidd HLN.out
                clear hst1 hdk4 hf4 hsz
                go_wp2_with fail
                refine (rcrash_any q _ _ _ _ (.slice none 0 0) [] true W4 hst4.dr hlpos (Sl.nil _ _) (fun h0 => by simp at h0)).mono ?_
                rintro e W5 ⟨⟨u, rfl⟩, hdr5, hf5⟩
                have hst := hst4.model hdr5 (fun b hb => by simp [Value.ownBlock] at hb) hf5
                have hwl : ([] : List (Nat × ByteArray)).length ≤ i + 1 := by simp
                have hceq : crTo (fun i => true || keptB [] i) ls ws ws.length = crTo (fun _ => true) ls ws ws.length := rfl
                rw [hceq] at hst
                clear hst4 hdr5 hf5 hceq hwl0 HLN
                generalize crTo (fun _ => true) ls ws ws.length = ls1 at *
                generalize ([] : List (Nat × ByteArray)) = ws1 at *
                generalize (Value.slice none 0 0) = v1 at *
                go_wp2_with fail
                generalize W5 = W at *
                obtain ⟨wa, wcap, rfl⟩ := hst.dr.wait.shape
                have hcw : W.cell? ⟨q, 1, none⟩ = some (.slice wa ws1.length wcap) := hst.dr.head.cell rfl
                have hdkd := hst.dk.ob ((Below.refl W.heap.size W).drew) (Nat.le_refl _)
                have hstd := hst.ob ((Below.refl W.heap.size W).drew) (Nat.le_refl _)
                have hcwd : W.drew.cell? ⟨q, 1, none⟩ = some (.slice wa ws1.length wcap) := hcw
                have hn1' : ((n : Int) != (n : Int)) = false := by simp
                have hw1' : ((ws1.length : Int) != (ws1.length : Int)) = false := by simp
                have hwl3 : ws1.length ≤ 60 := by omega
                have HWL := hidd hwl
                have HSZ := hidd hsz1
                clear hst hcw hwl hsz1
                go_region_held3 (fun W' => W'.cell? ⟨q, 1, none⟩ = some (.slice wa ws1.length wcap) ∧ W' = W.drew)
                  (first | exact ⟨hcwd, rfl⟩)
                  (first | (go_at_call 20; refine (waits_any p r _ _ _ _ hdkd).mono ?_; rintro e w' ⟨rfl, rfl⟩) | (go_at_call 50; refine (len_any p r _ _ _ _ hdkd).mono ?_; rintro e w' ⟨rfl, rfl⟩; rw [HLN1.out]))
                go_wp2_with fail
                go_roundw
                case rel => exact ⟨i + 1, by omega, by go_num, _, _, _, _, _, hstd, HLN1.out, HWL.out, HSZ.out⟩
                case measure => simp [intOf]; omega
            · as_aux_lemma =>
              have cks := hq0.cell (i := 1) (v := .string xs) rfl
              have ckk := hq0.cell (i := 2) (v := .int .i64 xk) rfl
              have hbq := hq0.lt
              have haq2 : ∀ b, drS q lv1 wv b → b ≠ aq := fun b hb e => by have := haq b (.inr hb); omega
              by_cases hok : badK n xk = false ∧ xs.size = 16
              · obtain ⟨hb0, hs16⟩ := hok
                obtain ⟨hk0, hkn⟩ : 0 ≤ xk ∧ xk < (n : Int) := by
                  unfold badK at hb0
                  simp at hb0
                  omega
                obtain ⟨kk, rfl⟩ := Int.eq_ofNat_of_zero_le hk0
                have z1 : ((xs.size : Int) != 16) = false := by simp; omega
                have HS := hidd hs16
                have hkl : kk < ls.length := by have := HLN.out; omega
                have hw6 : ws.length ≤ 1000000 := by omega
                rw [hb0]
                clear hs16 hk0 hb0
                go_wp2_with fail
                refine (rput_any q _ _ _ _ kk xs _ hst1.dr hkl hw6).mono ?_
                rintro e W4 ⟨⟨u, rfl⟩, wv4, hdr4, hwv4, hf4⟩
                have hst4 := hst1.model hdr4 hwv4 hf4
                have hq4 := hq0.fr hf4 (fun e => haq2 aq e rfl)
                have cks := hq4.cell (i := 1) (v := .string xs) rfl
                have ckk := hq4.cell (i := 2) (v := .int .i64 (kk : Int)) rfl
                clear hst1 hdr4 hwv4 hf4 hq0
                go_wp2_with fail
                refine (write_ok p r _ _ _ kk xs W4 hst4.dk hkl HS.out hw6).mono ?_
                rintro e W5 ⟨rfl, v5, hdk5, hv5, hf5⟩
                have hst5 := hst4.real hdk5 hv5 hf5
                clear hst4 hdk5 hv5 hf5 hq4
                go_wp2_with fail
                refine (coded2 E w.heap.size W5 (henv.below hst5.below (Nat.le_refl _)) (hh.below hst5.below (Nat.le_refl _)) .nilIface 0 (.inl ⟨rfl, rfl⟩) 0).mono ?_
                rintro e W6 ⟨rfl, hb6⟩
                have z : decide (((0 : Nat) : Int) = 0) = true := rfl
                rw [z]
                have hst := hst5.ob hb6 (Nat.le_refl _)
                have hsz1 := hsz.snoc (k := kk) HS.out
                have hwl : (ws ++ [(kk, xs)]).length ≤ i + 1 := by simp; omega
                have HLN1 := HLN
                clear hst5 hb6 z hsz hwl0 hkl hw6
                generalize ws ++ [(kk, xs)] = ws1 at *
                go_wp2_with fail
                generalize W6 = W at *
                obtain ⟨wa, wcap, rfl⟩ := hst.dr.wait.shape
                have hcw : W.cell? ⟨q, 1, none⟩ = some (.slice wa ws1.length wcap) := hst.dr.head.cell rfl
                have hdkd := hst.dk.ob ((Below.refl W.heap.size W).drew) (Nat.le_refl _)
                have hstd := hst.ob ((Below.refl W.heap.size W).drew) (Nat.le_refl _)
                have hcwd : W.drew.cell? ⟨q, 1, none⟩ = some (.slice wa ws1.length wcap) := hcw
                have hn1' : ((n : Int) != (n : Int)) = false := by simp
                have hw1' : ((ws1.length : Int) != (ws1.length : Int)) = false := by simp
                have hwl3 : ws1.length ≤ 60 := by omega
                have HWL := hidd hwl
                have HSZ := hidd hsz1
                clear hst hcw hwl hsz1
                go_region_held3 (fun W' => W'.cell? ⟨q, 1, none⟩ = some (.slice wa ws1.length wcap) ∧ W' = W.drew)
                  (first | exact ⟨hcwd, rfl⟩)
                  (first | (go_at_call 20; refine (waits_any p r _ _ _ _ hdkd).mono ?_; rintro e w' ⟨rfl, rfl⟩) | (go_at_call 50; refine (len_any p r _ _ _ _ hdkd).mono ?_; rintro e w' ⟨rfl, rfl⟩; rw [HLN1.out]))
                go_wp2_with fail
                go_roundw
                case rel => exact ⟨i + 1, by omega, by go_num, _, _, _, _, _, hstd, HLN1.out, HWL.out, HSZ.out⟩
                case measure => simp [intOf]; omega
              · have HB : Hid (badK ls.length xk = true ∨ xs.size ≠ 16) := by
                  rw [HLN.out]
                  refine hidd ?_
                  cases hb0 : badK n xk
                  · exact .inr (fun e => hok ⟨hb0, e⟩)
                  · exact .inl rfl
                have hd : badK n xk = true ∨ (badK n xk = false ∧ ((xs.size : Int) != 16) = true) := by
                  cases hb0 : badK n xk
                  · right
                    refine ⟨rfl, ?_⟩
                    rw [bne_iff_ne]
                    intro e
                    exact hok ⟨hb0, by omega⟩
                  · exact .inl rfl
                clear hok
                rcases hd with hb0 | ⟨hb0, z1⟩
                all_goals
                  rw [hb0]
                  clear hb0
                  go_wp2_with fail
                  refine (write_bad E p r _ _ _ xk xs _ hst1.dk HB.out _ _ (henv.below hst1.below (Nat.le_refl _)) (by decide)).mono ?_
                  rintro e W5 ⟨rfl, rfl⟩
                  unfold erv
                  go_wp2_with fail
                  refine (coded2 E w.heap.size _ (henv.below hst1.below (Nat.le_refl _)) (hh.below hst1.below (Nat.le_refl _)) (.iface 113 (.pointer (some (E 1)))) 2 (.inr ⟨1, by omega, rfl, rfl⟩) 2).mono ?_
                  rintro e W6 ⟨rfl, hb6⟩
                  have z : decide (((2 : Nat) : Int) = 2) = true := rfl
                  rw [z]
                  have hst := hst1.ob hb6 (Nat.le_refl _)
                  have hsz1 := hsz
                  have hwl : ws.length ≤ i + 1 := by omega
                  have HLN1 := HLN
                  clear hst1 hb6 z hsz hwl0 HB
                  generalize ws = ws1 at *
                  go_wp2_with fail
                  generalize W6 = W at *
                  obtain ⟨wa, wcap, rfl⟩ := hst.dr.wait.shape
                  have hcw : W.cell? ⟨q, 1, none⟩ = some (.slice wa ws1.length wcap) := hst.dr.head.cell rfl
                  have hdkd := hst.dk.ob ((Below.refl W.heap.size W).drew) (Nat.le_refl _)
                  have hstd := hst.ob ((Below.refl W.heap.size W).drew) (Nat.le_refl _)
                  have hcwd : W.drew.cell? ⟨q, 1, none⟩ = some (.slice wa ws1.length wcap) := hcw
                  have hn1' : ((n : Int) != (n : Int)) = false := by simp
                  have hw1' : ((ws1.length : Int) != (ws1.length : Int)) = false := by simp
                  have hwl3 : ws1.length ≤ 60 := by omega
                  have HWL := hidd hwl
                  have HSZ := hidd hsz1
                  clear hst hcw hwl hsz1
                  go_region_held3 (fun W' => W'.cell? ⟨q, 1, none⟩ = some (.slice wa ws1.length wcap) ∧ W' = W.drew)
                    (first | exact ⟨hcwd, rfl⟩)
                    (first | (go_at_call 20; refine (waits_any p r _ _ _ _ hdkd).mono ?_; rintro e w' ⟨rfl, rfl⟩) | (go_at_call 50; refine (len_any p r _ _ _ _ hdkd).mono ?_; rintro e w' ⟨rfl, rfl⟩; rw [HLN1.out]))
                  go_wp2_with fail
                  go_roundw
                  case rel => exact ⟨i + 1, by omega, by go_num, _, _, _, _, _, hstd, HLN1.out, HWL.out, HSZ.out⟩
                  case measure => simp [intOf]; omega
    · have hge : L.length ≤ i := by omega
      obtain rfl : L.length = i := by omega
      obtain ⟨W0, hW0⟩ : ∃ W0, W0 = wr := ⟨_, rfl⟩
      rw [← hW0] at hst ⊢
      clear hW0
      have hsz0 := hst.below.size
      go_wp2_with fail
      go_loopw [16] (fun t wr => ∃ j : Nat, j ≤ n ∧ t = .int .i64 (j : Int) ∧ Below W0.heap.size W0 wr) (fun t _ => n - (intOf t).toNat)
      case atStart => exact ⟨0, Nat.zero_le _, rfl, Below.refl _ _⟩
      case round =>
        obtain ⟨j, hj, rfl, hb⟩ := hrel
        have hst1 := hst.ob hb (Nat.le_refl _)
        by_cases hjn : j < n
        · have hjl : j < ls.length := by have := HLN.out; omega
          have q3 : (j : Int) < (n : Int) := by omega
          obtain ⟨tj, htj⟩ : ∃ tj, rdW ws j (ls.getD j ByteArray.empty) = tj := ⟨_, rfl⟩
          have HTJ := hidd htj
          clear htj
          go_wp2_with fail
          refine (read_ok p r _ _ _ j wr hst1.dk hjl).mono ?_
          rintro e w5 ⟨rfl, hb5⟩
          rw [HTJ.out]
          have hst5 := hst1.ob hb5 (Nat.le_refl _)
          have hb5' := hb.trans (hb5.mono hb.size)
          clear hst1 hb hb5
          go_wp2_with fail
          refine (rread_any q _ _ _ _ j w5 hst5.dr hjl).mono ?_
          rintro e w5' ⟨rfl, rfl⟩
          rw [HTJ.out]
          go_wp2_with fail
          go_roundw
          case rel => exact ⟨j + 1, hjn, by go_num, hb5'⟩
          case measure => simp [intOf]; omega
        · obtain rfl : n = j := by omega
          have hneg : badK ls.length (-1) = true := by unfold badK; simp
          have hnn : badK ls.length (n : Int) = true := by rw [HLN.out]; unfold badK; simp
          have HNEG := hidd hneg
          have HNN := hidd hnn
          clear hneg hnn hst hb
          go_wp2_with fail
          refine (read_bad E p r _ _ _ (-1) wr hst1.dk HNEG.out _ _ (henv.below hst1.below (Nat.le_refl _)) (by decide)).mono ?_
          rintro e w5 ⟨rfl, hb5⟩
          have hst5 := hst1.ob hb5 (Nat.le_refl _)
          clear hst1 hb5
          unfold erv
          go_wp2_with fail
          refine (read_bad E p r _ _ _ (n : Int) w5 hst5.dk HNN.out _ _ (henv.below hst5.below (Nat.le_refl _)) (by decide)).mono ?_
          rintro e w6 ⟨rfl, hb6⟩
          have hst6 := hst5.ob hb6 (Nat.le_refl _)
          clear hst5 hb6
          unfold erv
          go_wp2_with fail
          refine (coded2 E w.heap.size w6 (henv.below hst6.below (Nat.le_refl _)) (hh.below hst6.below (Nat.le_refl _)) (.iface 113 (.pointer (some (E 1)))) 2 (.inr ⟨1, by omega, rfl, rfl⟩) 2).mono ?_
          rintro e w7 ⟨rfl, hb7⟩
          have z : decide (((2 : Nat) : Int) = 2) = true := rfl
          rw [z]
          have hst7 := hst6.ob hb7 (Nat.le_refl _)
          clear hst6 hb7 z
          go_wp2_with fail
          refine (coded2 E w.heap.size w7 (henv.below hst7.below (Nat.le_refl _)) (hh.below hst7.below (Nat.le_refl _)) (.iface 113 (.pointer (some (E 1)))) 2 (.inr ⟨1, by omega, rfl, rfl⟩) 2).mono ?_
          rintro e w8 ⟨rfl, hb8⟩
          have z : decide (((2 : Nat) : Int) = 2) = true := rfl
          rw [z]
          have hB8 := (hst7.ob hb8 (Nat.le_refl _)).below
          clear hst7 hb8 z
          go_wp2_with fail
          go_ret
          exact ⟨rfl, hB8⟩
end Go.Proofs.YtgckmlafpmnekaaDoor
