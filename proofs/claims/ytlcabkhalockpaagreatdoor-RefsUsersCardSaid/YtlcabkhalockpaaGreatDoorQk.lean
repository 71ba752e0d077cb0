/- stillroomlaw3.RefsUsers, walked. Condition: the packs are there, the variables read as listed. -/
import Derived.Test.YtlcabkhalockpaaGreatDoorQj
namespace Go.Proofs.YtlcabkhalockpaaGreatDoor
open Go.RowKit Go.Shelf Go.Maps
theorem name_inj {M : List Pv} (hg : Good (pnL M)) {i k : Nat} (hi : i < M.length) (hk : k < M.length) (h : M[i].name = M[k].name) : i = k := by
  have h1 := hg.one
  rw [pnL_names] at h1
  have hi' : i < (nmL M).length := by simpa [nmL] using hi
  have hk' : k < (nmL M).length := by simpa [nmL] using hk
  exact (List.getElem_inj h1 (h₀ := hi') (h₁ := hk')).1 (by simpa [nmL] using h)
theorem uses_ok {M : List Pv} (hg : Good (pnL M)) {i k : Nat} (hi : i < M.length) (hk : k < M.length) {us : List ByteArray} (hm : ∀ s, s ∈ us ↔ s ∈ usersOf (pnL M) M[i].name) :
    inB M[k].name us = (!decide (k = i) && inB M[i].name M[k].refs) := by
  rw [Bool.eq_iff_iff, inB_iff, hm, mem_users, Bool.and_eq_true, inB_iff, Bool.not_eq_true', decide_eq_false_iff_not]
  constructor
  · rintro ⟨p, hp, h1, h2, h3⟩
    unfold pnL at hp
    obtain ⟨q, hq, rfl⟩ := List.mem_map.1 hp
    obtain ⟨j, hj, rfl⟩ := List.getElem_of_mem hq
    obtain rfl := name_inj hg hj hk h1
    exact ⟨fun e => h2 (by subst e; rfl), h3⟩
  · rintro ⟨h1, h2⟩
    exact ⟨M[k].pn, List.mem_map.2 ⟨M[k], List.getElem_mem hk, rfl⟩, rfl, fun e => h1 (name_inj hg hk hi e), h2⟩
theorem rev_at {M : List Pv} {i j : Nat} (hi : i < M.length) (h : j + i + 1 = M.length) : (nmL M).reverse[j]? = some M[i].name := by
  have hl : (nmL M).length = M.length := by simp [nmL]
  rw [List.getElem?_reverse (by omega), hl, show M.length - 1 - j = i by omega]
  simp [nmL, hi]
set_option maxRecDepth 100000 in
set_option maxHeartbeats 40000000 in
theorem refsUsers_true (E : Nat → Addr) (B : Nat) (v : Value) (L : List Pv) (w : World) (h : PkI L v w) (ht : ∀ p ∈ L, p.tn ≤ maxLen) (hE : Env codeGs B w E) (hH : Hnd w) :
    Calls Tryz.prog 5 #[v] w fun e w' => e = .returned (.bool true) ∧ Below w.heap.size w w' := by
  obtain ⟨a, cap, rfl⟩ := h.shape
  have hle := h.1.le
  have HE := hidd (fun W (hW : Below w.heap.size w W) => hE.ob hW)
  have HP := hidd (fun W (hW : Below w.heap.size w W) => h.ob hW)
  have HN := hidd (needed_true E B w hE hH)
  clear h hE hH
  go_enter Tryz.func5, Tryz.ntmps5
  go_wp2_with fail
  refine HN.out.mono ?_
  rintro e w1 ⟨rfl, hB1⟩
  have HLP := hidd (longPacks_any L _ w1 (HP.out w1 hB1) ht)
  clear HN
  go_wp2_with fail
  refine HLP.out.mono ?_
  rintro e w2 ⟨b1, rfl, hb2, hno1⟩
  have hB2 := below_step hB1 hb2
  clear hb2 HLP
  cases b1
  rotate_left
  · go_wp2_with fail
    go_ret
    exact ⟨rfl, hB2⟩
  obtain ⟨hl45, hsh⟩ := hno1 rfl
  clear hno1
  by_cases h15 : L.length ≤ 15
  rotate_left
  · have q1 : (15 : Int) < (L.length : Int) := by omega
    clear hsh HP ht
    go_wp2_with fail
    go_ret
    exact ⟨rfl, hB2⟩
  have q1 : ¬ (15 : Int) < (L.length : Int) := by omega
  have HOP := hidd (ownPacks_any L _ w2 (HP.out w2 hB2) hl45 (fun p hp => (hsh p hp).2.1))
  clear hsh HP ht
  go_wp2_with fail
  refine HOP.out.mono ?_
  rintro e w4 ⟨M, mv, rfl, hM, hpn, hb4⟩
  have hB4 := below_step hB2 hb4
  obtain ⟨ma, mc, rfl⟩ := hM.shape
  have hml : M.length ≤ 15 := by have := congrArg List.length hpn; simp only [pnL, List.length_map] at this; omega
  have HM := hidd (fun W (hW : Below w4.heap.size w4 W) => hM.ob hW)
  have HE5 := hidd (fun W (hW : Below w4.heap.size w4 W) => HE.out W (below_step hB4 hW))
  have HCK := hidd (rCheck_any E B M _ w4 hM (HE.out w4 hB4))
  have HB4 := hidd hB4
  clear hb4 HOP hM HE hB1 hB2 hB4 hpn
  go_wp2_with fail
  refine HCK.out.mono ?_
  rintro e w5 ⟨ev, rfl, hf, hb5⟩
  clear HCK
  by_cases hc : (packsE (pnL M)).1 = 0
  rotate_left
  · obtain ⟨T, ad, rfl⟩ := hf.iface hc
    clear hf
    go_wp2_with fail
    go_ret
    exact ⟨rfl, below_step HB4.out hb5⟩
  rw [hc] at hf
  obtain rfl := FaV.nil hf
  have hg := good_of hc
  have HD := hidd (dead_any E B M [] _ (.slice none 0 0) w5 (HM.out w5 hb5) (txi_nil w5) (HE5.out w5 hb5) (by simp))
  have hcn : (closE M []).1 = 0 := closE_ok hc (fun s hs => by cases hs)
  clear hf
  go_wp2_with fail
  refine HD.out.mono ?_
  rintro e w6 ⟨dead, da, dc, ev, rfl, hf, hdd, hb6, hok, -⟩
  obtain ⟨-, -, live, hclo, rfl⟩ := hok hcn
  obtain rfl := clo_nil hclo
  rw [hcn] at hf
  obtain rfl := FaV.nil hf
  have hB6 := below_step hb5 hb6
  rw [dead_nil, pnL_names] at hdd ⊢
  have hrl : (nmL M).reverse.length = M.length := by simp [nmL]
  have hrm : ∀ s, s ∈ (nmL M).reverse ↔ s ∈ (pnL M).map (·.1) := fun s => by rw [pnL_names]; exact List.mem_reverse
  have hrev := fun i (hi : i < M.length) j (hj : j + i + 1 = M.length) => rev_at hi hj
  generalize (nmL M).reverse = D at *
  have q2 : ((D.length : Int) != (M.length : Int)) = false := by rw [hrl]; simp
  have HDD := hidd (fun W (hW : Below w6.heap.size w6 W) => hdd.ob hW)
  have HRL := hidd hrl
  have HRM := hidd hrm
  have HREV := hidd hrev
  have HM6 := hidd (fun W (hW : Below w6.heap.size w6 W) => HM.out W (hB6.trans (hW.mono hB6.size)))
  have HE6 := hidd (fun W (hW : Below w6.heap.size w6 W) => HE5.out W (hB6.trans (hW.mono hB6.size)))
  have HB6 := hidd (below_step HB4.out hB6)
  have HG := hidd hg
  have HC := hidd hc
  have hdl : D.length ≤ 15 := by omega
  clear hf hdd hok hclo hcn HD hrl hrm hrev hg hc hb5 hb6 hB6 HB4 HM HE5
  go_wp2_with fail
  go_loopw [7] (fun i wr => ∃ k : Nat, k ≤ M.length ∧ i = .int .i64 k ∧ Below w6.heap.size w6 wr) (fun i _ => M.length - (intOf i).toNat)
  case atStart => exact ⟨0, Nat.zero_le _, rfl, Below.refl _ _⟩
  case round =>
    obtain ⟨i, hk, rfl, hbe⟩ := hrel
    by_cases hlt : i < M.length
    · obtain ⟨j, hj⟩ : ∃ j, j + i + 1 = M.length := ⟨M.length - 1 - i, by omega⟩
      obtain ⟨hjd, hje⟩ := List.getElem?_eq_some_iff.1 (HREV.out i hlt j hj)
      obtain ⟨b0, o0, rfl, hb0, e0⟩ := (HDD.out wr hbe).at hjd
      rw [hje] at e0
      obtain ⟨b1, o1, rfl, hb1, a0, a1, a2, a3, a4, a5⟩ := (HM6.out wr hbe).at hlt
      have hok1 := (HM6.out wr hbe).2 _ (List.getElem_mem hlt)
      have hnz := hok1.nm
      have p1 : (0 : Int) ≤ (i : Int) := by omega
      have p2 : (i : Int) < (M.length : Int) := by omega
      have p3 : (M.length : Int) - 1 - (i : Int) = (j : Int) := by omega
      have p4 : (j : Int) < (D.length : Int) := by omega
      have p5 : (0 : Int) ≤ (j : Int) := by omega
      have hin : ∀ s ∈ [M[i].name], s ∈ nmL M := fun s hs => by simp only [List.mem_singleton] at hs; subst hs; exact List.mem_map.2 ⟨M[i], List.getElem_mem hlt, rfl⟩
      have hce := closE_ok HC.out hin
      have HUO := hidd (fun k (hk : k < M.length) us hm => uses_ok HG.out hlt hk (us := us) hm)
      have HUS := hidd (fun W (hW : Below w6.heap.size w6 W) => users_any E B M M[i].name _ W (HM6.out W hW) (HE6.out W hW) hnz)
      have HCL := hidd (fun W (hW : Below w6.heap.size w6 W) => closure_any E B M [M[i].name] _ _ (W.alloc (.cells #[.string M[i].name] 9)) (HM6.out _ (hW.alloc hW.size _)) ⟨sl1 W M[i].name, fun s hs => by simp only [List.mem_singleton] at hs; subst hs; exact hnz⟩ (HE6.out _ (hW.alloc hW.size _)) (by simp))
      have HA0 := hidd (fun W (hW : Below wr.heap.size wr W) => (hW.cell (p := ⟨b1, o1 + i * 6, none⟩) hb1).trans a0)
      have hun : ∀ k (hk : k < M.length), M[i].name ∈ M[k].refs → ∃ p ∈ pnL M, p.1 = M[k].name ∧ M[i].name ∈ p.2 := fun k hk hm => ⟨M[k].pn, List.mem_map.2 ⟨M[k], List.getElem_mem hk, rfl⟩, rfl, hm⟩
      have HUN := hidd hun
      clear hok1 hin hje a1 a2 a3 a4 a5 hun
      generalize hnm : M[i].name = nm at *
      clear hnm
      go_upto_region 13 with fail
      go_quiet (fail)
      have hQ := below_dn wr nq
      have hbq := below_step hbe hQ
      have z0 := HA0.out _ hQ
      generalize wr.drewN nq = wq at *
      have HUW := hidd (HUS.out wq hbq)
      clear HUS e0 a0 hb0 hbe
      go_wp2_with fail
      refine HUW.out.mono ?_
      rintro e w7 ⟨us, sa, sc, ev, rfl, hf, hus, hb7, hok, -⟩
      obtain ⟨-, -, -, hmem⟩ := hok hce
      rw [hce] at hf
      obtain rfl := FaV.nil hf
      have hB7 := below_step hbq hb7
      have hQ7 := below_step hQ hb7
      have z1 := HA0.out w7 hQ7
      have HC7 := hidd (HCL.out w7 hB7)
      have HUS7 := hidd (fun W (hW : Below w7.heap.size w7 W) => hus.ob hW)
      have HUO7 := hidd (fun k hk => HUO.out k hk us hmem)
      clear hf hok hmem hus HUW hb7 hbq HCL HUO z0
      go_wp2_with fail
      refine HC7.out.mono ?_
      rintro e w8 ⟨mine, ea, ec, ev, rfl, hf, hmi, hb8, hok, -⟩
      obtain ⟨-, -, hclo⟩ := hok hce
      rw [hce] at hf
      obtain rfl := FaV.nil hf
      have hb78 : Below w7.heap.size w7 w8 := ((Below.refl _ _).alloc (Nat.le_refl _) _).trans (hb8.mono (by simp))
      have hB8 := below_step hB7 hb78
      have hQ8 := below_step hQ7 hb78
      have z2 := HA0.out w8 hQ8
      have hin1 : inB nm mine = true := inB_iff.2 ((hclo.2 _).2 (.base (by simp)))
      have hIT := inTexts_any mine (.slice ea mine.length ec) nm w8 hmi
      rw [hin1] at hIT
      have HIT := hidd hIT
      have HMI8 := hidd (fun W (hW : Below w8.heap.size w8 W) => hmi.ob hW)
      have HUS8 := hidd (fun W (hW : Below w8.heap.size w8 W) => HUS7.out W (hb78.trans (hW.mono hb78.size)))
      have HCLO := hidd hclo
      clear hf hok hclo hmi HC7 hb8 hb78 hin1 hIT HUS7 z1 hB7 hQ7
      go_wp2_with fail
      refine HIT.out.mono ?_
      rintro e w9 ⟨rfl, hb9⟩
      have hB9 := below_step hB8 hb9
      have hQ9 := below_step hQ8 hb9
      have HMI := hidd (fun W (hW : Below w9.heap.size w9 W) => HMI8.out W (hb9.trans (hW.mono hb9.size)))
      have HUS := hidd (fun W (hW : Below w9.heap.size w9 W) => HUS8.out W (hb9.trans (hW.mono hb9.size)))
      have HM9 := hidd (fun W (hW : Below w9.heap.size w9 W) => HM6.out W (hB9.trans (hW.mono hB9.size)))
      have HE9 := hidd (fun W (hW : Below w9.heap.size w9 W) => HE6.out W (hB9.trans (hW.mono hB9.size)))
      have HA9 := hidd (fun W (hW : Below w9.heap.size w9 W) => HA0.out W (hQ9.trans (hW.mono hQ9.size)))
      have HB9 := hidd hB9
      have hmz : mine.length ≤ 9223372036854775807 := (HMI.out w9 (Below.refl _ _)).1.le
      clear HIT HMI8 HUS8 hb9 hB9 hB8 hQ8 z2 hQ9 hQ HA0
      go_wp2_with fail
      go_loopw [12] (fun q w2 => ∃ k : Nat, k ≤ M.length ∧ q = .int .i64 k ∧ Below w9.heap.size w9 w2) (fun q _ => M.length - (intOf q).toNat)
      case atStart => exact ⟨0, Nat.zero_le _, rfl, Below.refl _ _⟩
      case round =>
        obtain ⟨k, hk2, rfl, hbe⟩ := hrel
        by_cases hlt2 : k < M.length
        · obtain ⟨b2, o2, e2, hb2, c0, c1, c2, c3, c4, c5⟩ := (HM9.out wr hbe).at hlt2
          simp only [Option.some.injEq, Addr.mk.injEq] at e2
          obtain ⟨rfl, rfl, -⟩ := e2
          have a9 := HA9.out wr hbe
          have hok2 := (HM9.out wr hbe).2 _ (List.getElem_mem hlt2)
          have huo := HUO7.out k hlt2
          have hun := HUN.out k hlt2
          have hnk : M[k].name ∈ nmL M := List.mem_map.2 ⟨M[k], List.getElem_mem hlt2, rfl⟩
          have p6 : (0 : Int) ≤ (k : Int) := by omega
          have p7 : (k : Int) < (M.length : Int) := by omega
          have HLT2 := hidd hlt2
          generalize M[k] = pv at *
          obtain ⟨nk, ra, rc, rs, kk, dd, ee, ta, tn, tc⟩ := pv
          simp only [Pv.rv] at c0 c1 huo hun hnk
          have hrt := hok2.txi
          have hnkz := hok2.nm
          simp only [Pv.rv] at hrt hnkz
          have hITU := fun W (hW : Below w9.heap.size w9 W) => inTexts_any us (.slice sa us.length sc) nk W (HUS.out W hW)
          have HCE := hidd (closE_ok HC.out (names := [nk]) (fun s hs => by simp only [List.mem_singleton] at hs; subst hs; exact hnk))
          have HN0 := hidd (fun W (hW : Below wr.heap.size wr W) => (hW.cell (p := ⟨b1, o1 + k * 6, none⟩) hb2).trans c0)
          have HN1 := hidd (fun W (hW : Below wr.heap.size wr W) => (hW.cell (p := ⟨b1, o1 + k * 6 + 1, none⟩) hb2).trans c1)
          have HT := hidd (fun W (hW : Below wr.heap.size wr W) => hrt.ob hW)
          clear c2 c3 c4 c5 hok2 hnk
          by_cases hki : k = i
          · rw [decide_eq_true hki] at huo
            simp only [Bool.not_true, Bool.false_and] at huo
            rw [huo] at hITU
            have HITU := hidd hITU
            have q5 : ((k : Int) != (i : Int)) = false := by simp [hki]
            clear hITU huo hun hki hrt hnkz
            go_upto_region 22 with fail
            go_quiet (fail)
            have hQ := below_dn wr nq
            have hbq := below_step hbe hQ
            have z0 := HN0.out _ hQ
            generalize wr.drewN nq = wq at *
            have HI := hidd (HITU.out wq hbq)
            clear HITU c0 c1
            go_wp2_with fail
            refine HI.out.mono ?_
            rintro e wx ⟨rfl, hbx⟩
            go_wp2_with fail
            go_roundw
            case rel => exact ⟨k + 1, HLT2.out, by go_num, below_step hbq hbx⟩
            case measure => simp [intOf]; have := HLT2.out; omega
          · rw [decide_eq_false hki] at huo
            simp only [Bool.not_false, Bool.true_and] at huo
            rw [huo] at hITU
            have HITU := hidd hITU
            have q5 : ((k : Int) != (i : Int)) = true := by rw [bne_iff_ne]; omega
            have HTK := hidd (fun W (hW : Below wr.heap.size wr W) => inTexts_any rs (.slice ra rs.length rc) nm W (HT.out W hW))
            have HUNK := hidd hun
            have HCLK := hidd (fun W (hW : Below w9.heap.size w9 W) => closure_any E B M [nk] _ _ (W.alloc (.cells #[.string nk] 9)) (HM9.out _ (hW.alloc hW.size _)) ⟨sl1 W nk, fun s hs => by simp only [List.mem_singleton] at hs; subst hs; exact hnkz⟩ (HE9.out _ (hW.alloc hW.size _)) (by simp))
            generalize hbb : inB nm rs = bb at *
            clear hITU huo hun hki hrt hnkz
            have hz0 : Below wr.heap.size wr wr.drew := (Below.refl _ _).drew
            have d4 : wr.drew.cell? ⟨b1, o1 + i * 6, none⟩ = some (.string nm) := a9
            have d5 : wr.drew.cell? ⟨b1, o1 + k * 6 + 1, none⟩ = some (.slice ra rs.length rc) := c1
            have HSC : Hid (∀ W', Below wr.heap.size wr W' → W'.cell? ⟨b1, o1 + i * 6, none⟩ = some (.string nm) ∧ W'.cell? ⟨b1, o1 + k * 6 + 1, none⟩ = some (.slice ra rs.length rc)) := hidd (fun W' hW => ⟨(hW.cell (p := ⟨b1, o1 + i * 6, none⟩) hb2).trans a9, (hW.cell (p := ⟨b1, o1 + k * 6 + 1, none⟩) hb2).trans c1⟩)
            cases bb
            all_goals
              go_upto_region 22 with fail
              first
                | (go_region_held3 (fun W' => W'.cell? ⟨b1, o1 + i * 6, none⟩ = some (.string nm) ∧ W'.cell? ⟨b1, o1 + k * 6 + 1, none⟩ = some (.slice ra rs.length rc))
                    (first | exact HSC.out _ hz0 | exact HSC.out _ hb6w)
                    (first | (go_at_call 20; (with_reducible refine (HTK.out _ hz0).mono ?_); rintro e w6 ⟨rfl, hb6⟩; have hb6w := hz0.trans hb6)))
                | fail
            all_goals
              have hB6 := below_step hbe hb6w
              have z0 := HN0.out w6 hb6w
              have HI := hidd (HITU.out w6 hB6)
              have HN6 := hidd (HN0.out)
              clear HITU c0 c1 d4 d5 HSC HTK a9 HN0
              go_wp2_with fail
              refine HI.out.mono ?_
              rintro e wx ⟨rfl, hbx⟩
              have hBx := below_step hB6 hbx
              have hQx := below_step hb6w hbx
              have z1 := HN6.out wx hQx
              clear HI z0 hbx
            · go_wp2_with fail
              go_roundw
              case rel => exact ⟨k + 1, HLT2.out, by go_num, hBx⟩
              case measure => simp [intOf]; have := HLT2.out; omega
            · have HC8 := hidd (HCLK.out wx hBx)
              go_wp2_with fail
              refine HC8.out.mono ?_
              rintro e w11 ⟨cl, ca, cc, ev, rfl, hf, hcl, hb11, hok, -⟩
              obtain ⟨-, -, hclk⟩ := hok HCE.out
              rw [HCE.out] at hf
              obtain rfl := FaV.nil hf
              have hb12 : Below wx.heap.size wx w11 := ((Below.refl _ _).alloc (Nat.le_refl _) _).trans (hb11.mono (by simp))
              have hB11 := below_step hBx hb12
              have HALL := hidd (clo_user HCLO.out hclk (HUNK.out (inB_iff.1 hbb)))
              have HCL := hidd (fun W (hW : Below w11.heap.size w11 W) => hcl.ob hW)
              clear hf hok hclk hcl hb11 HC8 z1
              go_wp2_with fail
              go_loopw [16] (fun q w2 => ∃ j : Nat, j ≤ mine.length ∧ q = .int .i64 j ∧ Below w11.heap.size w11 w2) (fun q _ => mine.length - (intOf q).toNat)
              case atStart => exact ⟨0, Nat.zero_le _, rfl, Below.refl _ _⟩
              case round =>
                obtain ⟨m, hm, rfl, hbe3⟩ := hrel
                by_cases hlt3 : m < mine.length
                · obtain ⟨b3, o3, rfl, hb3, y0⟩ := (HMI.out wr (below_step hB11 hbe3)).at hlt3
                  have p8 : (0 : Int) ≤ (m : Int) := by omega
                  have p9 : (m : Int) < (mine.length : Int) := by omega
                  have hin3 : inB mine[m] cl = true := inB_iff.2 (HALL.out _ (List.getElem_mem hlt3))
                  have hIT := inTexts_any cl (.slice ca cl.length cc) mine[m] wr (HCL.out wr hbe3)
                  rw [hin3] at hIT
                  have HLT3 := hidd hlt3
                  generalize mine[m] = y at *
                  have HIT := hidd hIT
                  clear hIT hin3
                  go_wp2_with fail
                  refine HIT.out.mono ?_
                  rintro e wz ⟨rfl, hbz⟩
                  go_wp2_with fail
                  go_roundw
                  case rel => exact ⟨m + 1, HLT3.out, by go_num, below_step hbe3 hbz⟩
                  case measure => simp [intOf]; have := HLT3.out; omega
                · have hkl3 : m = mine.length := by omega
                  subst hkl3
                  go_wp2_with fail
                  go_roundw
                  case rel => exact ⟨k + 1, HLT2.out, by go_num, below_step hB11 hbe3⟩
                  case measure => simp [intOf]; have := HLT2.out; omega
        · have hkl : k = M.length := by omega
          subst hkl
          go_wp2_with fail
          go_roundw
          case rel => exact ⟨i + 1, hlt, by go_num, HB9.out.trans (hbe.mono HB9.out.size)⟩
          case measure => simp [intOf]; omega
    · have hkl : i = M.length := by omega
      subst hkl
      have HC9 := hidd (closure_any E B M D _ _ wr (HM6.out wr hbe) (HDD.out wr hbe) (HE6.out wr hbe) (by omega))
      have hcd := closE_ok HC.out (names := D) (fun s hs => by rw [← pnL_names]; exact (HRM.out s).1 hs)
      go_wp2_with fail
      refine HC9.out.mono ?_
      rintro e w7 ⟨all, ea, ec, ev, rfl, hf, hal, hb7, hok, -⟩
      obtain ⟨-, -, hclo⟩ := hok hcd
      rw [hcd] at hf
      obtain rfl := FaV.nil hf
      obtain ⟨hlen, hmem⟩ := clo_all HG.out HRM.out hclo
      have hB7 := below_step hbe hb7
      have hpl : (pnL M).length = M.length := by simp [pnL]
      rw [hpl] at hlen
      have q6 : ((all.length : Int) == (M.length : Int)) = true := by rw [hlen]; simp
      have hal5 : all.length ≤ 15 := by omega
      by_cases hm0 : M.length = 0
      · have hM0 : M = [] := List.eq_nil_of_length_eq_zero hm0
        have hA0 : all = [] := List.eq_nil_of_length_eq_zero (by omega)
        subst hM0 hA0
        clear hf hok hclo hmem hlen HC9 hm0 hal q6
        go_wp2_with fail
        go_ret
        exact ⟨rfl, below_step HB6.out hB7⟩
      · obtain ⟨b1, o1, rfl, hb1, a0, -⟩ := (HM6.out w7 hB7).at (i := 0) (by omega)
        have hn0 := ((HM6.out w7 hB7).2 M[0] (List.getElem_mem _)).nm
        have hal0 : M[0].name ∈ all := (hmem _).2 (by rw [pnL_names]; exact List.mem_map.2 ⟨M[0], List.getElem_mem _, rfl⟩)
        rw [Nat.zero_mul, Nat.add_zero] at a0
        generalize M[0].name = n0 at *
        have HWI := hidd (with_any all _ n0 w7 hal hclo.1 hn0 (by omega))
        have HUP := hidd hclo.1
        have HAL := hidd (fun W (hW : Below w7.heap.size w7 W) => hal.ob hW)
        have HAL0 := hidd hal0
        have q7 : ((M.length : Int) == 0) = false := by rw [beq_eq_false_iff_ne]; omega
        clear hf hok hclo hmem hlen HC9 hal hal0
        go_wp2_with fail
        refine HWI.out.mono ?_
        rintro e w8 ⟨c, ca, cc, rfl, hcx, hb8, hcu, hcm, -⟩
        obtain rfl : c = all := WiP.same HUP.out HAL0.out hcu hcm
        have hB8 := below_step hB7 hb8
        have HST := hidd (sameTexts_any _ _ _ _ w8 (HAL.out w8 hb8).1 hcx.1)
        have ht : decide (c = c) = true := decide_eq_true rfl
        rw [ht] at HST
        clear hcx hcu hcm hb8 HWI HUP HAL HAL0
        go_wp2_with fail
        refine HST.out.mono ?_
        rintro e w9 ⟨rfl, hb9⟩
        have hB9 := below_step hB8 hb9
        clear HST hb9
        go_wp2_with fail
        go_ret
        exact ⟨rfl, below_step HB6.out hB9⟩
end Go.Proofs.YtlcabkhalockpaaGreatDoor
