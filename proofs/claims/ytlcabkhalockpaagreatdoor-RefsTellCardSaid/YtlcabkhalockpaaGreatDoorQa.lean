/- The contract of refs.Closure. Condition: the packs and the names are there, the variables read as listed. -/
import Derived.Test.YtlcabkhalockpaaGreatDoorQ9
namespace Go.Proofs.YtlcabkhalockpaaGreatDoor
open Go.RowKit Go.Maps

set_option maxRecDepth 100000 in
set_option maxHeartbeats 40000000 in
theorem closure_any (E : Nat → Addr) (B : Nat) (L : List Pv) (names : List ByteArray) (v u : Value) (w : World) (h : PkI L v w) (hu : TxI names u w) (hE : Env codeGs B w E) (h5 : names.length ≤ 1000) :
    Calls Tryz.prog 13 #[v, u] w (CloP E L names w) := by
  obtain ⟨a, cap, rfl⟩ := h.shape
  obtain ⟨ua, uc, rfl⟩ := hu.shape
  have HC1 := hidd (rCheck_any E B L _ w h hE)
  obtain ⟨R, hR⟩ : ∃ R, packsE (pnL L) = R := ⟨_, rfl⟩
  rw [hR] at HC1
  by_cases hc : R.1 = 0
  rotate_left
  · have HCE : Hid (closE L names = R) := hidd (by unfold closE; rw [hR, if_neg hc])
    clear h hu hE hR
    go_enter Tryz.func13, Tryz.ntmps13
    go_wp2_with fail
    refine HC1.out.mono ?_
    rintro e w1 ⟨ev, rfl, hf, hb⟩
    obtain ⟨T, ad, rfl⟩ := hf.iface hc
    have HF := hidd hf
    clear hf HC1
    go_wp2_with fail
    go_ret2
    exact ⟨[], none, 0, _, rfl, by rw [HCE.out]; exact HF.out, txi_nil _, hb, fun h => absurd (by rw [HCE.out] at h; exact h) hc, fun _ => rfl⟩
  have hg : Good (pnL L) := good_of (by rw [hR]; exact hc)
  have hL40 : L.length ≤ 40 := by have := hg.few; simpa [pnL] using this
  have hne := good_sz hg
  have HBY := hidd (fun W (hW : Below w.heap.size w W) => byName_any L names (.slice a L.length cap) (.slice ua names.length uc) W (h.ob hW) (hu.ob hW) hne (by omega))
  obtain ⟨R1, R2⟩ := R
  simp only at hc
  subst hc
  by_cases hq : (names.all fun s => inB s (nmL L)) = true
  rotate_left
  · have hq' : (names.all fun s => inB s (nmL L)) = false := by simpa using hq
    have HCE : Hid (closE L names = (6, -1)) := hidd (by unfold closE; rw [hR, if_pos rfl, if_neg hq])
    unfold ByP at HBY
    rw [hq'] at HBY
    have HE := hidd (fun W (hW : Below w.heap.size w W) => hE.ob hW)
    clear h hu hE hR hg hne hq hq'
    go_enter Tryz.func13, Tryz.ntmps13
    go_wp2_with fail
    refine HC1.out.mono ?_
    rintro e w1 ⟨ev, rfl, hf, hb⟩
    obtain rfl := FaV.nil hf
    clear hf HC1
    go_wp2_with fail
    refine (HBY.out w1 hb).mono ?_
    rintro e w2 ⟨m, rfl, -, -, hb2⟩
    have hB2 := below_step hb hb2
    have hcE := (HE.out _ hB2).cell 2 (by decide)
    unfold erv at hcE
    clear hb2 hb HBY
    go_wp2_with fail
    go_quiet (fail)
    go_wp2_with fail
    go_ret2
    exact ⟨[], none, 0, _, rfl, by rw [HCE.out]; exact .inr (.inl ⟨by decide, rfl, rfl⟩), txi_nil _, hB2.trans ((below_dn w2 nq).mono hB2.size), fun h => absurd (by rw [HCE.out] at h; exact h) (by decide), fun _ => rfl⟩
  have HCE : Hid (closE L names = (0, -1)) := hidd (by unfold closE; rw [hR, if_pos rfl, if_pos hq])
  have hin : ∀ s ∈ names, s ∈ nmL L := fun s hs => inB_iff.1 (List.all_eq_true.1 hq s hs)
  have HIN := hidd hin
  unfold ByP at HBY
  rw [hq] at HBY
  have HH := hidd (fun W (hW : Below w.heap.size w W) => h.ob hW)
  have hok0 := h.2
  have HUS := hidd hu.2
  have HCL := hidd (fun W (hW : Below w.heap.size w W) => clone_strs3 (.slice ua names.length uc) names W (hu.ob hW).1 h5)
  have HG := hidd hg
  have HNE := hidd hne
  have HSZ : Hid (∀ p ∈ L, Sz p.name) := hidd (fun p hp => (hok0 p hp).nm)
  obtain ⟨i0, hi0, hz0, hz1, hz2⟩ := info_parts infoTx3
  clear h hu hE hR hg hne hq hin hok0
  go_enter Tryz.func13, Tryz.ntmps13
  go_wp2_with fail
  refine HC1.out.mono ?_
  rintro e w1 ⟨ev, rfl, hf, hb⟩
  obtain rfl := FaV.nil hf
  clear hf HC1
  go_wp2_with fail
  refine (HBY.out w1 hb).mono ?_
  rintro e w2 ⟨mm, rfl, hmp, hmw, hb2⟩
  have hB2 := below_step hb hb2
  have hmk : (Sem.run Tryz.prog (Instr.makeMap 64 none) w2) = .ok (.map (some w2.heap.size)) (w2.alloc (.map #[] 0)) := rfl
  have hM0 := MapS.new bvals w2
  rw [setF_nil] at hM0
  have hmp3 := hmp.low ((Below.refl w2.heap.size w2).alloc (Nat.le_refl _) (.map #[] 0))
  have hB3 := hB2.alloc hB2.size (.map #[] 0)
  have hmlt := hmp.lt
  have hsmm : Hid (w2.heap.size ≠ mm ∧ w.heap.size ≤ w2.heap.size ∧ w.heap.size ≤ mm) := hidd ⟨by omega, hB2.size, by have := hb.size; omega⟩
  clear hmp hb2 hb HBY hmw hmlt
  go_upto_region 8 with fail
  generalize w2.alloc (.map #[] 0) = w3 at *
  generalize w2.heap.size = sm at *
  clear hmk hB2
  go_wp2_with fail
  refine (HCL.out w3 hB3).mono ?_
  rintro e w4 ⟨ta, tc, rfl, how, hb4⟩
  have hB4 := below_step hB3 hb4
  have hK4 : ClK L names w sm mm names [] (.slice ta names.length tc) w4 := ⟨hB4, how.mono (fun g hg => Nat.le_trans hB3.size hg), (hM0.low hb4), hmp3.low hb4, Wk.start _ _, HIN.out, (fun s hs => absurd hs (by simp)), List.nodup_nil, Nat.le_add_right _ _⟩
  clear how hb4 hB3 hB4 hM0 hmp3 HCL
  go_wp2_with fail
  go_loopw [10] (fun vt wr => ∃ (todo seen : List ByteArray) (ta : Option Addr) (tc : Nat), vt = .slice ta todo.length tc ∧ ClK L names w sm mm todo seen (.slice ta todo.length tc) wr) (fun vt wr => pot L sm vt wr)
  case atStart => exact ⟨names, [], ta, tc, rfl, hK4⟩
  case round =>
    obtain ⟨todo, seen, qa, qc, rfl, hK⟩ := hrel
    cases todo with
    | nil =>
      have hn40 : seen.length ≤ 40 := by
        have := nodup_le hK.nd hK.sin
        simp only [nmL, List.length_map] at this
        omega
      have HSR := hidd (sorted_call sm _ seen wr hK.ms (by omega))
      have HKY := hidd (keys_call sm wr)
      have HD : Hid (∀ s, s ∈ seen ↔ Reach (pnL L) names s) := hidd hK.wk.done
      have HB := hidd hK.below
      simp only [List.length_nil]
      clear hK hn40 hK4
      go_wp2_with fail
      refine HKY.out.mono ?_
      rintro e w5 ⟨rfl, rfl⟩
      go_wp2_with fail
      refine HSR.out.mono ?_
      rintro e w6 ⟨c, v6, rfl, hup, hmem, htx, hb6⟩
      obtain ⟨ca, ck, rfl⟩ := htx.shape
      have HF : Hid (CloP E L names w (.returned (.tuple #[.slice ca c.length ck, .nilIface])) w6) := hidd
        ⟨c, ca, ck, _, rfl, by rw [HCE.out]; exact .inl ⟨rfl, rfl⟩, htx, below_step HB.out hb6, fun _ => ⟨HG.out, HIN.out, hup, fun s => (hmem s).trans (HD.out s)⟩, fun h => absurd (by rw [HCE.out]) h⟩
      clear hup hmem htx hb6 HSR HKY
      go_wp2_with fail
      go_ret2
      exact HF.out
    | cons s rest =>
      obtain ⟨g, off, rfl⟩ : ∃ g off, qa = some (⟨g, off, none⟩ : Addr) := by
        rcases hK.ow.2 with ⟨he, h0⟩ | ⟨g, off, _, _, he, _⟩
        · simp at h0
        · simp only [Value.slice.injEq] at he
          exact ⟨g, off, he.1⟩
      obtain ⟨hcell, -, hOt⟩ := ow_tail hK.ow
      have hsn := hK.tin s (List.mem_cons_self ..)
      obtain ⟨p, hpL, hps⟩ := List.mem_map.1 hsn
      have hsz : Sz s := by rw [← hps]; exact HSZ.out p hpL
      have hpot := pot_eq hK.ms HSZ.out (.slice (some ⟨g, off, none⟩) (s :: rest).length qc)
      have HP0 : Hid (pot L sm (.slice (some ⟨g, off, none⟩) (rest.length + 1) qc) wr = rest.length + 1 + sumU L seen) := hidd hpot
      have hlk := hK.ms.look (t := 64) (e := 4) Tryz.underlying64 (zero_bool wr) (by simp [bvals]) hsz
      rw [setF_get] at hlk
      simp only [List.length_cons] at *
      have p0 : (0 : Int) < ((rest.length + 1 : Nat) : Int) := by omega
      obtain ⟨A2, hA2⟩ : ∃ A2, (if qc = 1 then some (⟨g, off, none⟩ : Addr) else some ⟨g, off + 1, none⟩) = A2 := ⟨_, rfl⟩
      rw [hA2] at hOt
      have HK := hidd hK
      have HOT := hidd hOt
      clear hK hpot hOt hK4
      go_upto_region 12 with fail
      clear hA2 hcell p0
      cases hi : inB s seen
      · -- a new one
        rw [hi] at hlk
        have hn40 : seen.length ≤ 40 := by
          have := nodup_le HK.out.nd HK.out.sin
          simp only [nmL, List.length_map] at this
          omega
        obtain ⟨w6, hrun, hM6, hF6⟩ := HK.out.ms.store (t := 64) (e := 4) Tryz.underlying64 (by omega) s (.bool true) (by simp [bvals]) hsz
        rw [setF_add] at hM6
        obtain ⟨x1, x2, x3⟩ := hsmm.out
        have hB6 : Below w.heap.size w w6 := HK.out.below.trans (hF6.below HK.out.below.size (fun b e => by omega))
        have hmp6 : MapS (pvals L) w6 mm L.length (nmF L) := HK.out.mp.fr hF6 (fun e => x1 e.symm)
        have how6 : Ow (fun g => w.heap.size ≤ g) w6 9 1 (.slice A2 rest.length (qc - 1)) rest.length (tcells rest) := HOT.out.fr hF6 (fun k hk e => ow_ne HOT.out HK.out.ms (by rw [hk, e]))
        have hlp := hmp6.look (t := 61) (e := 49) Tryz.underlying61 (zero_pack w6) (by simp [pvals]) hsz
        rw [nmF_get] at hlp
        have hpk : nmP L s ∈ L ∧ (nmP L s).name = s := by
          unfold nmP
          cases ho : nmO L s with
          | none => exact absurd hsn (nmO_none.1 ho)
          | some q => exact nmO_some ho
        have hpo := (HH.out w6 hB6).2 _ hpk.1
        have hgp : (nmP L s).pn ∈ pnL L := List.mem_map.2 ⟨_, hpk.1, rfl⟩
        have hsum := sumU_add hpk.1 (x := seen) (by rw [hpk.2]; exact hi)
        have hwk := HK.out.wk
        rw [show s :: rest = (nmP L s).pn.1 :: rest by rw [show (nmP L s).pn.1 = (nmP L s).name from rfl, hpk.2]] at hwk
        have hwk2 := hwk.fresh (by rw [pnL_names]; rw [← pnL_names]; exact HG.out.one) hgp
        rw [show (nmP L s).pn.1 = s from hpk.2] at hwk2
        rw [hpk.2] at hsum
        have hrefs : ∀ t ∈ (nmP L s).refs, t ∈ nmL L := fun t ht => by
          obtain ⟨k, hk, e⟩ := List.getElem_of_mem hgp
          have := HG.out.ahead k hk t (by rw [e]; exact ht)
          obtain ⟨j, hj, -, e2⟩ := this
          rw [← pnL_names]
          exact List.mem_map.2 ⟨_, List.getElem_mem hj, e2⟩
        have hlen20 : (nmP L s).refs.length ≤ 20 := HG.out.less _ hgp
        have hsrc := Src.sl (P := Tryz.prog) (tx := 23) Tryz.underlying23 hpo.sl (one_tcells _)
        clear hpk hgp hwk hpo
        generalize nmP L s = pv at *
        obtain ⟨nm, ra, rc, rs, kk, dd, ee, ta', tn, tc'⟩ := pv
        simp only [Pv.rv, Pv.tv, pkval, Pv.pn] at hlp hsrc hsum hwk2 hrefs hlen20
        have hfd : (Instr.field 49 (.agg #[.string nm, .slice ra rs.length rc, .string kk, .string dd, .bool ee, .slice ta' tn tc']) 1).run Tryz.prog w6 = .ok (.slice ra rs.length rc) w6 := by kernel_rfl
        have hin2 : ∀ t ∈ rest ++ rs, t ∈ nmL L := fun t ht => by
          rcases List.mem_append.1 ht with k | k
          · exact HK.out.tin t (List.mem_cons_of_mem _ k)
          · exact hrefs t k
        have hsin2 : ∀ t ∈ s :: seen, t ∈ nmL L := fun t ht => by
          rcases List.mem_cons.1 ht with rfl | k
          · exact hsn
          · exact HK.out.sin t k
        have hnd2 : (s :: seen).Nodup := List.nodup_cons.2 ⟨inB_no.1 hi, HK.out.nd⟩
        have htl := HK.out.tl
        simp only [List.length_cons] at htl
        have hrl : rest.length ≤ 2000 := by omega
        have HNEW : Hid (∀ (v' : Value) (W : World), Ow (fun g => w.heap.size ≤ g) W 9 1 v' (rest.length + rs.length) (tcells rest ++ tcells rs) → w6.grownBy W (Value.slice A2 rest.length (qc - 1)).ownBlock →
            ClK L names w sm mm (rest ++ rs) (s :: seen) v' W ∧ pot L sm v' W < pot L sm (.slice (some ⟨g, off, none⟩) (rest.length + 1) qc) wr) := hidd (fun v' W hv hgr => by
          have hne1 := ow_ne how6 hM6
          have hne2 := ow_ne how6 hmp6
          have hM7 : MapS bvals W sm (seen.length + 1) (setF (s :: seen)) := hM6.fr ((Fr.refl (fun b => (Value.slice A2 rest.length (qc - 1)).ownBlock = some b) w6).grown hgr (fun k hk => .inl hk)) hne1
          have hmp7 : MapS (pvals L) W mm L.length (nmF L) := hmp6.fr ((Fr.refl (fun b => (Value.slice A2 rest.length (qc - 1)).ownBlock = some b) w6).grown hgr (fun k hk => .inl hk)) hne2
          refine ⟨⟨hB6.grown hgr hB6.size (fun k hk => (how6.blk k hk).1), ?_, hM7, hmp7, hwk2, hin2, hsin2, hnd2, ?_⟩, ?_⟩
          · rw [List.length_append, show tcells (rest ++ rs) = tcells rest ++ tcells rs by simp [tcells]]; exact hv
          · rw [List.length_append, List.length_cons]; omega
          · rw [HP0.out, pot_eq hM7 HSZ.out]
            obtain ⟨_, _, rfl⟩ := hv.shape
            simp only [slN]
            omega)
        have HOW := hidd how6
        have hsz6 := hB6.size
        clear hsum hwk2 hrefs hM6 hF6 hB6 hmp6 hin2 hsin2 hnd2 htl hn40 hi HK HOT how6 HP0
        go_wp2_with (at_builtin; refine wpList_append_ow _ rfl _ _ 23 23 rfl (fun g => w.heap.size ≤ g) ?cF 9 i0 _ 1 16 Tryz.underlying23 hi0 hz0 hz1 hz2 rfl (by decide) _ _ _ rfl HOW.out _ _ _ rfl hsrc ?c3 ?c4 ?_)
        case cF => intro g hg; omega
        case c3 => unfold maxLen; omega
        case c4 => omega
        intro v' w7 how7 hgr7
        obtain ⟨va, vc, rfl⟩ := how7.shape
        obtain ⟨hK7, hpt⟩ := HNEW.out _ _ how7 hgr7
        have HK7 := hidd hK7
        have HPT := hidd hpt
        clear how7 hgr7 hK7 hpt HNEW HOW hsrc hlen20 hrl hsz6 hlp hrun hlk hfd
        go_wp2_with fail
        go_roundw
        case rel => exact ⟨rest ++ rs, s :: seen, va, vc, by rw [List.length_append], by rw [List.length_append]; exact HK7.out⟩
        case measure => exact HPT.out
      · rw [hi] at hlk
        have HN : Hid (ClK L names w sm mm rest seen (.slice A2 rest.length (qc - 1)) wr) := hidd
          ⟨HK.out.below, HOT.out, HK.out.ms, HK.out.mp, HK.out.wk.old (inB_iff.1 hi), fun t ht => HK.out.tin t (List.mem_cons_of_mem _ ht), HK.out.sin, HK.out.nd, by have := HK.out.tl; simp only [List.length_cons] at this; omega⟩
        have HPT : Hid (pot L sm (.slice A2 rest.length (qc - 1)) wr < pot L sm (.slice (some ⟨g, off, none⟩) (rest.length + 1) qc) wr) := hidd (by
          rw [HP0.out, pot_eq HK.out.ms HSZ.out]
          simp only [slN]
          omega)
        clear hi HK HOT HP0
        go_wp2_with fail
        go_roundw
        case rel => exact ⟨rest, seen, A2, qc - 1, rfl, HN.out⟩
        case measure => exact HPT.out
end Go.Proofs.YtlcabkhalockpaaGreatDoor
