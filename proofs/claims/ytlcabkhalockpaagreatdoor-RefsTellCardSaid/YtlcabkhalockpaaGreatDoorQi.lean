/- stillroomlaw3.RefsClosed, walked. Condition: the packs and the names are there, the variables read as listed. -/
import Derived.Test.YtlcabkhalockpaaGreatDoorQh
namespace Go.Proofs.YtlcabkhalockpaaGreatDoor
open Go.RowKit Go.Shelf Go.Maps

theorem closE_ok {M : List Pv} {names : List ByteArray} (h : (packsE (pnL M)).1 = 0) (hn : ∀ s ∈ names, s ∈ nmL M) : (closE M names).1 = 0 := by
  unfold closE
  rw [if_pos h, if_pos (List.all_eq_true.2 (fun s hs => inB_iff.2 (hn s hs)))]
theorem closE_pk {M : List Pv} {names : List ByteArray} (h : (closE M names).1 = 0) : (packsE (pnL M)).1 = 0 := by
  unfold closE at h
  split at h
  · assumption
  · rename_i h2; exact absurd h h2
theorem sl_take {w : World} {a : Option Addr} {n cap : Nat} {l : List ByteArray} (h : TxI l (.slice a n cap) w) {k : Nat} (hk : k ≤ l.length) : TxI (l.take k) (.slice a k cap) w := by
  obtain ⟨⟨a', cap', he, h1, h2, h2', h3⟩, hz⟩ := h
  simp only [Value.slice.injEq] at he
  obtain ⟨rfl, rfl, rfl⟩ := he
  have hl : (l.take k).length = k := by rw [List.length_take]; omega
  refine ⟨⟨a, cap, by rw [hl], by rw [tcells_len, hl]; omega, by omega, h2', ?_⟩, fun s hs => hz s (List.mem_of_mem_take hs)⟩
  rcases h3 with h3 | ⟨b, off, rfl, h4, h5⟩
  · left; omega
  · right
    refine ⟨b, off, rfl, h4, fun j hj => ?_⟩
    rw [tcells_len, hl] at hj
    rw [h5 j (by rw [tcells_len]; omega)]
    simp [tcells]
set_option maxRecDepth 100000 in
set_option maxHeartbeats 40000000 in
theorem refsClosed_true (E : Nat → Addr) (B : Nat) (v : Value) (L : List Pv) (u : Value) (names : List ByteArray) (w : World) (h : PkI L v w) (ht : ∀ p ∈ L, p.tn ≤ maxLen) (hu : TxI names u w) (hE : Env codeGs B w E) (hH : Hnd w) :
    Calls Tryz.prog 4 #[v, u] w fun e w' => e = .returned (.bool true) ∧ Below w.heap.size w w' := by
  obtain ⟨a, cap, rfl⟩ := h.shape
  obtain ⟨ua, uc, rfl⟩ := hu.shape
  obtain ⟨i0, hi0, hz0, hz1, hz2⟩ := info_parts infoTx3
  have HE := hidd (fun W (hW : Below w.heap.size w W) => hE.ob hW)
  have HP := hidd (fun W (hW : Below w.heap.size w W) => h.ob hW)
  have HU := hidd (fun W (hW : Below w.heap.size w W) => hu.ob hW)
  have HN := hidd (needed_true E B w hE hH)
  clear h hu hE hH
  go_enter Tryz.func4, Tryz.ntmps4
  go_wp2_with fail
  refine HN.out.mono ?_
  rintro e w1 ⟨rfl, hB1⟩
  have HLP := hidd (longPacks_any L _ w1 (HP.out w1 hB1) ht)
  clear HN
  go_wp2_with fail
  refine HLP.out.mono ?_
  rintro e w2 ⟨b1, rfl, hb2, hno1⟩
  have hB2 := below_step hB1 hb2
  clear hb2 HLP
  cases b1
  rotate_left
  · go_wp2_with fail
    go_ret
    exact ⟨rfl, hB2⟩
  obtain ⟨hl45, hsh⟩ := hno1 rfl
  have HLT := hidd (longTexts_any names _ w2 (HU.out w2 hB2))
  clear hno1
  go_wp2_with fail
  refine HLT.out.mono ?_
  rintro e w3 ⟨b2, rfl, hb3, hno2⟩
  have hB3 := below_step hB2 hb3
  clear hb3 HLT
  cases b2
  rotate_left
  · go_wp2_with fail
    go_ret
    exact ⟨rfl, hB3⟩
  obtain ⟨hn20, hns⟩ := hno2 rfl
  have HOP := hidd (ownPacks_any L _ w3 (HP.out w3 hB3) hl45 (fun p hp => (hsh p hp).2.1))
  clear hno2 hsh HP
  go_wp2_with fail
  refine HOP.out.mono ?_
  rintro e w4 ⟨M, mv, rfl, hM, hpn, hb4⟩
  have hB4 := below_step hB3 hb4
  obtain ⟨ma, mc, rfl⟩ := hM.shape
  have hml : M.length ≤ 45 := by have := congrArg List.length hpn; simp only [pnL, List.length_map] at this; omega
  have hsrc := Src.sl (P := Tryz.prog) (tx := 23) Tryz.underlying23 (HU.out w4 hB4).1 (one_tcells names)
  clear hb4 HOP
  go_wp2_with (at_builtin; refine wpList_append_ow _ rfl _ _ 23 23 rfl (fun g => w4.heap.size ≤ g) ?cF 9 i0 _ 1 16 Tryz.underlying23 hi0 hz0 hz1 hz2 rfl (by decide) _ _ _ rfl (Ow.nil _ _ _ _) _ _ _ rfl hsrc ?c3 ?c4 ?_)
  case cF => intro g hg; exact hg
  case c3 => unfold maxLen; omega
  case c4 => omega
  intro v' w5 how5 hgr5
  try simp only [Nat.zero_add, List.nil_append] at how5
  obtain ⟨oa, oc, rfl⟩ := how5.shape
  have hb5 : Below w4.heap.size w4 w5 := (Below.refl _ _).grown hgr5 (Nat.le_refl _) (fun k e => by cases e)
  have hB5 := below_step hB4 hb5
  have hO : TxI names (.slice oa names.length oc) w5 := ⟨how5.sl, (HU.out w4 hB4).2⟩
  have hM5 := hM.ob hb5
  have HM := hidd (fun W (hW : Below w5.heap.size w5 W) => hM5.ob hW)
  have HO := hidd (fun W (hW : Below w5.heap.size w5 W) => hO.ob hW)
  have HE5 := hidd (fun W (hW : Below w5.heap.size w5 W) => HE.out W (below_step hB5 hW))
  have HU5 := hidd (fun W (hW : Below w5.heap.size w5 W) => HU.out W (below_step hB5 hW))
  have HC := hidd (closure_any E B M names _ _ w5 hM5 hO (HE5.out w5 (Below.refl _ _)) (by omega))
  have HB5 := hidd hB5
  clear hsrc how5 hgr5 hb5 hM hM5 hO HE HU hB1 hB2 hB3 hB4 hB5 hpn ht
  go_wp2_with fail
  refine HC.out.mono ?_
  rintro e w6 ⟨live, la, lc, ev, rfl, hf, hlv, hb6, hok, hno⟩
  clear HC
  by_cases hc : (closE M names).1 = 0
  rotate_left
  · obtain ⟨T, ad, rfl⟩ := hf.iface hc
    obtain rfl := hno hc
    clear hf hlv hok hno
    go_wp2_with fail
    go_ret
    exact ⟨rfl, below_step HB5.out hb6⟩
  obtain ⟨hg, hin, hclo⟩ := hok hc
  rw [hc] at hf
  obtain rfl := FaV.nil hf
  have hpk := closE_pk hc
  have hlin : ∀ s ∈ live, s ∈ nmL M := fun s hs => by rw [← pnL_names]; exact reach_in hg (fun t ht => by rw [pnL_names]; exact hin t ht) ((hclo.2 s).1 hs)
  have hll := live_dead hg (fun t ht => by rw [pnL_names]; exact hin t ht) hclo
  have hpl : (pnL M).length = M.length := by simp [pnL]
  rw [hpl] at hll
  have hm40 : M.length ≤ 40 := by have := hg.few; omega
  have HC2 := hidd (closure_any E B M live _ _ w6 (HM.out w6 hb6) hlv (HE5.out w6 hb6) (by omega))
  have HLV := hidd (fun W (hW : Below w6.heap.size w6 W) => hlv.ob hW)
  have hc2 := closE_ok hpk hlin
  clear hf hok hno hlv
  go_wp2_with fail
  refine HC2.out.mono ?_
  rintro e w7 ⟨again, aa, ac, ev, rfl, hf, hag, hb7, hok, hno⟩
  obtain ⟨-, -, hclo2⟩ := hok hc2
  rw [hc2] at hf
  obtain rfl := FaV.nil hf
  obtain rfl := hclo.again hclo2
  have hB7 := below_step hb6 hb7
  have HD := hidd (dead_any E B M names _ _ w7 (HM.out w7 hB7) (HO.out w7 hB7) (HE5.out w7 hB7) (by omega))
  have HAG := hidd (fun W (hW : Below w7.heap.size w7 W) => hag.ob hW)
  have HLV7 := hidd (fun W (hW : Below w7.heap.size w7 W) => HLV.out W (hb7.trans (hW.mono hb7.size)))
  clear hf hok hno hag HC2 hclo2 hb7
  go_wp2_with fail
  refine HD.out.mono ?_
  rintro e w8 ⟨dead, da, dc, ev, rfl, hf, hdd, hb8, hok, hno⟩
  obtain ⟨-, -, live2, hclo3, rfl⟩ := hok hc
  obtain rfl := hclo.one hclo3
  rw [hc] at hf
  obtain rfl := FaV.nil hf
  have hB8 := below_step hB7 hb8
  have hdu := fun i (hi : i < (deadOf (pnL M) live2).length) p (hp : p ∈ pnL M) h1 h2 => dead_user hg hclo hi (p := p) hp h1 h2
  have hdm := fun s (hs : s ∈ deadOf (pnL M) live2) => mem_dead.1 hs
  obtain ⟨D, hD⟩ : ∃ D, deadOf (pnL M) live2 = D := ⟨_, rfl⟩
  rw [hD] at hdd hll hdu hdm ⊢
  have HS := hidd (sameTexts_any _ _ _ _ w8 (HAG.out w8 hb8).1 (HLV7.out w8 hb8).1)
  have ht : decide (live2 = live2) = true := decide_eq_true rfl
  rw [ht] at HS
  have q1 : ((live2.length : Int) + (D.length : Int)) = (M.length : Int) := by omega
  have HDD := hidd (fun W (hW : Below w8.heap.size w8 W) => hdd.ob hW)
  have HLV8 := hidd (fun W (hW : Below w8.heap.size w8 W) => HLV7.out W (hb8.trans (hW.mono hb8.size)))
  have HDU := hidd hdu
  have HDM := hidd hdm
  have HLB := hidd hclo
  have HCE := hidd hc
  have q2 : live2.length ≤ 40 := by omega
  have q3 : D.length ≤ 40 := by omega
  clear hf hok hno hdd HD hdu hdm hD hclo hclo3 hlin hc2 HLV HLV7 HAG hb8 hB7 hll hc hpl
  go_wp2_with fail
  refine HS.out.mono ?_
  rintro e w9 ⟨rfl, hb9⟩
  have hB9 := below_step hB8 hb9
  have HDD9 := hidd (fun W (hW : Below w9.heap.size w9 W) => HDD.out W (hb9.trans (hW.mono hb9.size)))
  have HLV9 := hidd (fun W (hW : Below w9.heap.size w9 W) => HLV8.out W (hb9.trans (hW.mono hb9.size)))
  clear HS HLV8 HDD hb9
  go_wp2_with fail
  have HU9 := hidd (fun W (hW : Below w9.heap.size w9 W) => HU5.out W (hB9.trans (hW.mono hB9.size)))
  have HM9 := hidd (fun W (hW : Below w9.heap.size w9 W) => HM.out W (hB9.trans (hW.mono hB9.size)))
  have HE9 := hidd (fun W (hW : Below w9.heap.size w9 W) => HE5.out W (hB9.trans (hW.mono hB9.size)))
  have hpk9 := hpk
  have HG := hidd hg
  have HB9 := hidd (below_step HB5.out hB9)
  clear HU5 HM HE5 HO hB9 hB8 hb6 q1 hpk hg HB5
  go_loopw [14] (fun i wr => ∃ k : Nat, k ≤ names.length ∧ i = .int .i64 k ∧ Below w9.heap.size w9 wr) (fun i _ => names.length - (intOf i).toNat)
  case atStart => exact ⟨0, Nat.zero_le _, rfl, Below.refl _ _⟩
  case round =>
    obtain ⟨k, hk, rfl, hbe⟩ := hrel
    by_cases hlt : k < names.length
    · obtain ⟨b1, o1, rfl, hb1, c1⟩ := (HU9.out wr hbe).at hlt
      have p1 : (0 : Int) ≤ (k : Int) := by omega
      have p2 : (k : Int) < (names.length : Int) := by omega
      have hin1 : inB names[k] live2 = true := inB_iff.2 ((HLB.out.2 _).2 (.base (List.getElem_mem hlt)))
      have hIT := inTexts_any live2 (.slice la live2.length lc) names[k] wr (HLV9.out wr hbe)
      rw [hin1] at hIT
      generalize names[k] = y at *
      have HIT := hidd hIT
      clear hIT hin1
      go_wp2_with fail
      refine HIT.out.mono ?_
      rintro e wx ⟨rfl, hbx⟩
      go_wp2_with fail
      go_roundw
      case rel => exact ⟨k + 1, hlt, by go_num, below_step hbe hbx⟩
      case measure => simp [intOf]; omega
    · have hkl : k = names.length := by omega
      subst hkl
      go_wp2_with fail
      go_loopw [15] (fun i w2 => ∃ k : Nat, k ≤ D.length ∧ i = .int .i64 k ∧ Below w9.heap.size w9 w2) (fun i _ => D.length - (intOf i).toNat)
      case atStart => exact ⟨0, Nat.zero_le _, rfl, hbe⟩
      case round =>
        obtain ⟨m, hm, rfl, hbe2⟩ := hrel
        by_cases hlt2 : m < D.length
        · obtain ⟨b2, o2, rfl, hb2, c2⟩ := (HDD9.out wr hbe2).at hlt2
          have p1 : (0 : Int) ≤ (m : Int) := by omega
          have p2 : (m : Int) < (D.length : Int) := by omega
          have hdm := HDM.out _ (List.getElem_mem hlt2)
          have hin1 : inB D[m] live2 = false := inB_no.2 hdm.2
          have hIT := inTexts_any live2 (.slice la live2.length lc) D[m] wr (HLV9.out wr hbe2)
          rw [hin1] at hIT
          have hdz := (HDD9.out wr hbe2).2 _ (List.getElem_mem hlt2)
          have hce : (closE M [D[m]]).1 = 0 := closE_ok hpk9 (fun s hs => by simp only [List.mem_singleton] at hs; subst hs; rw [← pnL_names]; exact hdm.1)
          have HUS := hidd (fun W (hW : Below w9.heap.size w9 W) => users_any E B M D[m] _ W (HM9.out W hW) (HE9.out W hW) hdz)
          have HDN := hidd (fun s (hs : s ∈ usersOf (pnL M) D[m]) => by
            obtain ⟨p, hp, rfl, hne, hi⟩ := mem_users.1 hs
            exact HDU.out m hlt2 p hp hne hi : ∀ s ∈ usersOf (pnL M) D[m], s ∈ D.take m)
          generalize D[m] = y at *
          have HIT := hidd hIT
          clear hIT hin1 hdm hdz
          go_wp2_with fail
          refine HIT.out.mono ?_
          rintro e wx ⟨rfl, hbx⟩
          have hBx := below_step hbe2 hbx
          have c3 := (hbx.cell (p := ⟨b2, o2 + m, none⟩) hb2).trans c2
          have HUY := hidd (HUS.out wx hBx)
          clear hbx HIT HUS
          go_wp2_with fail
          refine HUY.out.mono ?_
          rintro e wy ⟨us, sa, sc, ev, rfl, hf, hus, hby, hok, -⟩
          obtain ⟨-, -, -, hmem⟩ := hok hce
          rw [hce] at hf
          obtain rfl := FaV.nil hf
          have hBy := below_step hBx hby
          have HUSY := hidd (fun W (hW : Below wy.heap.size wy W) => hus.ob hW)
          have HMEM := hidd hmem
          clear hf hok hmem hus HUY hby hce
          go_wp2_with fail
          go_loopw [18] (fun i w3 => ∃ k : Nat, k ≤ us.length ∧ i = .int .i64 k ∧ Below wy.heap.size wy w3) (fun i _ => us.length - (intOf i).toNat)
          case atStart => exact ⟨0, Nat.zero_le _, rfl, Below.refl _ _⟩
          case round =>
            obtain ⟨n, hn, rfl, hbe3⟩ := hrel
            by_cases hlt3 : n < us.length
            · obtain ⟨b3, o3, rfl, hb3, c4⟩ := (HUSY.out wr hbe3).at hlt3
              have hum := (HUSY.out wr hbe3).1.le
              have p3 : (0 : Int) ≤ (n : Int) := by omega
              have p4 : (n : Int) < (us.length : Int) := by omega
              have hbA := below_step hBy hbe3
              have hin1 : inB us[n] (D.take m) = true := inB_iff.2 (HDN.out _ ((HMEM.out _).1 (List.getElem_mem hlt3)))
              have hTK := fun (W : World) (hW : Below wr.heap.size wr W) => inTexts_any (D.take m) (.slice (some ⟨b2, o2, none⟩) m dc) us[n] W (sl_take (HDD9.out W (below_step hbA hW)) (Nat.le_of_lt hlt2))
              rw [hin1] at hTK
              have p5 : (m : Int) ≤ (dc : Int) := by
                obtain ⟨_, _, he, _, h3, _⟩ := (HDD9.out wr hbA).1
                simp only [Value.slice.injEq] at he
                obtain ⟨-, -, rfl⟩ := he
                omega
              generalize us[n] = z at *
              have HTK := hidd hTK
              clear hTK hin1
              have HL3 := hidd hlt3
              go_upto_region 30 with fail
              have hz0 : Below wr.heap.size wr wr.drew := (Below.refl _ _).drew
              have d4 : wr.drew.cell? ⟨b3, o3 + n, none⟩ = some (.string z) := c4
              have HSC : Hid (∀ W', Below wr.heap.size wr W' → W'.cell? ⟨b3, o3 + n, none⟩ = some (.string z)) := hidd (fun W' hW => (hW.cell (p := ⟨b3, o3 + n, none⟩) hb3).trans c4)
              first
                | (go_region_held3 (fun W' => W'.cell? ⟨b3, o3 + n, none⟩ = some (.string z))
                    (first | exact HSC.out _ hz0 | exact HSC.out _ hb6w)
                    (first | (go_at_call 20; (with_reducible refine (HTK.out _ hz0).mono ?_); rintro e w6 ⟨rfl, hb6⟩; have hb6w := hz0.trans hb6)))
                | fail
              all_goals
                go_wp2_with fail
                go_roundw
                case rel => exact ⟨n + 1, HL3.out, by go_num, below_step hbe3 hb6w⟩
                case measure => simp [intOf]; have := HL3.out; omega
            · have hkl3 : n = us.length := by omega
              subst hkl3
              go_wp2_with fail
              go_roundw
              case rel => exact ⟨m + 1, hlt2, by go_num, below_step hBy hbe3⟩
              case measure => simp [intOf]; omega
        · have hkl2 : m = D.length := by omega
          subst hkl2
          go_wp2_with fail
          go_ret
          exact ⟨rfl, below_step HB9.out hbe2⟩
end Go.Proofs.YtlcabkhalockpaaGreatDoor
