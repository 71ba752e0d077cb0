/- DirsLinks, walked. Condition: the arguments and the variables are there. -/
import Derived.Test.YtoemahhpheobkaaGreatDoorDlP
namespace Go.Proofs.YtoemahhpheobkaaGreatDoor
open Go.RowKit Go.Shelf

theorem infoNoded : (Tryz.prog.info? 32).map (fun i => (i.zero, i.size, i.bytes)) = some (some (.agg #[.string ⟨#[]⟩, .string ⟨#[]⟩, .bool false, .slice none 0 0]), 4, 64) := by kernel_rfl
theorem ndcells_at : ∀ (l : List Lt) (i : Nat) (h : i < l.length) (j : Nat), j < 4 → (ndcells l)[i * 4 + j]? = (ncells l[i])[j]?
  | x :: l, 0, h, j, hj => by
    have e : ndcells (x :: l) = ncells x ++ ndcells l := rfl
    rw [e, Nat.zero_mul, Nat.zero_add, List.getElem?_append_left (by show j < 4; exact hj)]
    rfl
  | x :: l, i + 1, h, j, hj => by
    have e : ndcells (x :: l) = ncells x ++ ndcells l := rfl
    have h1 := ndcells_at l i (by simpa using h) j hj
    rw [e, List.getElem?_append_right (by show 4 ≤ _; omega)]
    show (ndcells l)[(i + 1) * 4 + j - 4]? = _
    rw [show (i + 1) * 4 + j - 4 = i * 4 + j by omega, h1]
    rfl
theorem sl_nd {w : World} {a : Option Addr} {n cap : Nat} {l : List Lt} (h : Sl w (.slice a n cap) (ndcells l) l.length 4) {i : Nat} (hi : i < l.length) :
    ∃ b off, a = some ⟨b, off, none⟩ ∧ b < w.heap.size ∧ w.cell? ⟨b, off + i * 4, none⟩ = some (.string l[i].kind) ∧ w.cell? ⟨b, off + i * 4 + 1, none⟩ = some (.string l[i].data) ∧ w.cell? ⟨b, off + i * 4 + 2, none⟩ = some (.bool l[i].exec) ∧ w.cell? ⟨b, off + i * 4 + 3, none⟩ = some l[i].v := by
  obtain ⟨a', cap', he, h1, h2, h2', h3⟩ := h
  simp only [Value.slice.injEq] at he
  obtain ⟨rfl, rfl, rfl⟩ := he
  rcases h3 with h3 | ⟨b, off, rfl, h4, h5⟩
  · omega
  · have hl := ndcells_len l
    have key : ∀ j, j < 4 → ∀ u, (ncells l[i])[j]? = some u → w.cell? ⟨b, off + (i * 4 + j), none⟩ = some u := fun j hj u hu => by
      have h6 := ndcells_at l i hi j hj
      rw [hu] at h6
      rw [h5 _ (by omega)]
      rw [List.getElem?_eq_getElem (by omega)] at h6
      exact h6
    refine ⟨b, off, rfl, h4, key 0 (by omega) _ rfl, ?_, ?_, ?_⟩
    · rw [Nat.add_assoc]; exact key 1 (by omega) _ rfl
    · rw [Nat.add_assoc]; exact key 2 (by omega) _ rfl
    · rw [Nat.add_assoc]; exact key 3 (by omega) _ rfl
theorem inosD_snoc (D : Nat → Option Dt) (kl : List Nat) {i : Nat} (hi : i < kl.length) : inosD D (kl.take (i + 1)) = inosD D (kl.take i) ++ inosE (D kl[i]) := by
  unfold inosD
  rw [List.take_succ_eq_append_getElem hi, List.flatMap_append]
  simp

set_option maxRecDepth 100000 in
set_option maxHeartbeats 40000000 in
theorem dirsLinks_true (E : Nat → Addr) (B : Nat) (n : Int) (v : Value) (ls : List Ta) (w : World) (hn : K64 n) (hv : TaI ls v w) (hE : Env diGs B w E) (hM : Ml w) :
    Calls Tryz.prog 3 #[.int .i64 n, v] w fun e w' => e = .returned (.bool true) ∧ Below w.heap.size w w' := by
  have hMl : 10 < w.heap.size := by
    obtain ⟨mv, hmv⟩ := hM
    exact World.block_lt_of_cell? w _ hmv
  have hBw := hE.size
  obtain ⟨va, vc, rfl, -⟩ := id hv.sl
  have HV := hidd (fun W (h : Below w.heap.size w W) => hv.ob h)
  have HE := hidd (fun W (h : Below w.heap.size w W) => hE.ob h)
  have HM := hidd (fun W (h : Below w.heap.size w W) => hM.ob h)
  have HD := hidd (dired_true E B w hE hM hMl)
  have HK := hidd hn
  clear hv hE hM hn
  obtain ⟨iN, hiN, hN0, hN1, hN2⟩ := info_parts infoNoded
  obtain ⟨iI, hiI, hI0, hI1, hI2⟩ := info_parts infoI
  go_enter Tryz.func3, Tryz.ntmps3
  go_wp2_with fail
  refine HD.out.mono ?_
  rintro e w2 ⟨rfl, hb2⟩
  have HB2 := hidd hb2
  have HLT := hidd (longTrees_any _ ls w2 (HV.out w2 hb2))
  clear hb2 HD
  by_cases hn1 : n < 1
  · have e1 : decide (n < 1) = true := decide_eq_true hn1
    clear hn1 HLT
    go_wp2_with fail
    go_ret
    exact ⟨rfl, HB2.out⟩
  have e1 : decide (n < 1) = false := decide_eq_false hn1
  by_cases hn60 : 60 < n
  · have e2 : decide (60 < n) = true := decide_eq_true hn60
    clear hn1 hn60 HLT
    go_wp2_with fail
    go_ret
    exact ⟨rfl, HB2.out⟩
  have e2 : decide (60 < n) = false := decide_eq_false hn60
  obtain ⟨m, rfl⟩ : ∃ m : Nat, n = (m : Int) := ⟨n.toNat, by omega⟩
  have HM60 : Hid (1 ≤ m ∧ m ≤ 60) := hidd ⟨by omega, by omega⟩
  clear hn1 hn60
  go_wp2_with fail
  refine HLT.out.mono ?_
  rintro e w3 ⟨⟨r, rfl, hr⟩, hb3⟩
  have HB3 : Hid (Below w.heap.size w w3) := hidd (HB2.out.trans (hb3.mono HB2.out.size))
  clear hb3 HLT
  cases r with
  | true =>
    clear hr
    go_wp2_with fail
    go_ret
    exact ⟨rfl, HB3.out⟩
  | false =>
  obtain ⟨hl25, hTS⟩ := hr rfl
  have HTS := hidd hTS
  have HDO := hidd (dirsOf_ok m w3 HM60.out.1 (by have := HM60.out.2; omega))
  clear hr hTS
  go_wp2_with fail
  refine HDO.out.mono ?_
  rintro e w4 ⟨L, dv, rfl, hLB, hD4, hb4⟩
  have hz3 := HB3.out.size
  have hz4 := hb4.size
  have HB4 : Hid (Below w.heap.size w w4) := hidd (HB3.out.trans (hb4.mono hz3))
  have hL : L.B ≤ w4.heap.size := by rw [hLB]; exact hz4
  have hLw : w.heap.size ≤ L.B := by rw [hLB]; exact hz3
  have hEB : B ≤ L.B := Nat.le_trans hBw hLw
  have hML : 10 < L.B := Nat.lt_of_lt_of_le hMl hLw
  have HK0 := hidd (DlK.start hD4)
  have HBL : Hid (∀ W, Below L.B w4 W → Below w.heap.size w W) := hidd (fun W h => HB4.out.trans (h.mono hLw))
  obtain ⟨s0, hs0⟩ : ∃ s, (⟨0, 0, fun _ => none, List.replicate m false, List.replicate m (zb 16), fun _ => none, 0⟩ : St) = s := ⟨_, rfl⟩
  rw [hs0] at HK0
  clear hD4 hb4 HDO hz3 hz4 hLB hs0 e1 e2
  go_wp2_with fail
  go_loopw [9, 10, 11, 12, 13, 65, 66, 87, 93] (fun pv iv _ _ _ _ _ _ _ wr => ∃ (i : Nat) (P : List Lt) (s : St), i ≤ ls.length ∧ iv = .int .i64 (i : Int) ∧ P.length ≤ i ∧ (∀ c ∈ P, ∃ a ∈ ls, a.n = c) ∧ DlK w4 L P pv (300 * i) s wr) (fun _ iv _ _ _ _ _ _ _ _ => ls.length - (intOf iv).toNat)
  case atStart => exact ⟨0, [], s0, Nat.zero_le _, rfl, Nat.le_refl _, (fun c hc => by cases hc), HK0.out⟩
  case round =>
    obtain ⟨i, P, s, hi, rfl, hPi, hPm, hK⟩ := hrel
    clear HK0
    have hBr := HBL.out wr hK.bel
    obtain ⟨pa, pc, rfl⟩ := hK.rows.shape
    by_cases hlt : i < ls.length
    · have p1 : (0 : Int) ≤ (i : Int) := by omega
      have p2 : (i : Int) < (ls.length : Int) := by omega
      have hV := HV.out wr hBr
      obtain ⟨b1, o1, rfl, hb1, a0, a1, a2, a3, a4, a5, a6, a7, a8, a9⟩ := sl_ta hV.sl hlt
      have hco := hV.ok _ (List.getElem_mem hlt)
      have hco4 := (HV.out w4 HB4.out).ok _ (List.getElem_mem hlt)
      have hnum := hV.num _ (List.getElem_mem hlt)
      have hts := HTS.out _ (List.getElem_mem hlt)
      have hmem := List.getElem_mem hlt
      obtain ⟨c, hc⟩ : ∃ c, ls[i] = c := ⟨_, rfl⟩
      rw [hc] at a0 a1 a2 a3 a4 a5 a6 a7 a8 a9 hco hco4 hnum hts hmem
      obtain ⟨na, nc, hnv⟩ := hco.shape
      obtain ⟨kc, pc', sc, ⟨kn, dn, en, vn, ksn⟩, kk, mm, bb⟩ := c
      simp only [Tr.v, Tr.kids, Tr.kind, Tr.data, Tr.exec] at hnv a0 a1 a2 a3 a4 a5 a6 a7 a8 a9
      subst hnv
      have hAl : Below wr.heap.size wr (wr.alloc (.cells #[.string kc, .string pc', .string sc, .string kn, .string dn, .bool en, .slice na ksn.length nc, .int .i64 kk, .int .i64 mm, .int .i64 bb] 34)) := (Below.refl _ _).alloc (Nat.le_refl _) _
      have hbx := Blk.new wr [.string kc, .string pc', .string sc, .string kn, .string dn, .bool en, .slice na ksn.length nc, .int .i64 kk, .int .i64 mm, .int .i64 bb] 34
      have hK1 := hK.later hL hAl
      have HN4 := hidd hco4
      have HTSc := hidd hts
      have HNUM := hidd hnum
      have HMEM := hidd hmem
      have HPM := hidd hPm
      have HCO := hidd (hco.ob hAl)
      have hnb : 300 * i + 300 ≤ 10000 := by omega
      have hnb1 : 300 * i + 300 = 300 * (i + 1) := by omega
      have hlt0 := hK.di.toDiM.ltS
      clear hV hc hco hco4 hnum hts hmem hPm hK hAl hBr
      have HDS : Hid (¬ diS L s wr.heap.size) := hidd (fun hb => by have := hlt0 _ hb; omega)
      clear hlt0
      cases hk1 : (kc.toList == [112, 117, 116]) with
      | true =>
        go_wp2_with fail
        generalize wr.alloc (.cells #[.string kc, .string pc', .string sc, .string kn, .string dn, .bool en, .slice na ksn.length nc, .int .i64 kk, .int .i64 mm, .int .i64 bb] 34) = wa at *
        refine (own_any 300 (Tr.mk kn dn en (.slice na ksn.length nc) ksn : Lt) wa (by have h1 : (Tr.mk kn dn en (.slice na ksn.length nc) ksn : Lt).sz ≤ 40 := HTSc.out.1; omega) (Nat.le_refl _) HCO.out).mono ?_
        rintro e w5 ⟨ya, yc, ky, rfl, hyb, hyo, hyi, hb5⟩
        have hK5 := hK1.later hL hb5
        have hbx5 := hbx.below hb5 hbx.lt
        have hB5 := HBL.out _ hK5.bel
        have hPA := dput_any2 E B L s _ w5 hyo (in_mono (fun b hb hd => by have h1 := hK1.di.toDiM.ltS b hd; have h2 : wa.heap.size ≤ b := hb.1; omega) _ hyi) hK5.di (HE.out _ hB5) hEB (HM.out _ hB5) hML (Nat.le_trans hL hK5.bel.size) (by have := hK5.N; omega) (by have := hK5.nm; omega) (by have := hK5.nx; omega)
        have HPA : Hid (Calls Tryz.prog 8 #[.pointer (some ⟨L.d, 0, none⟩), .agg #[.string kn, .string dn, .bool en, .slice ya ky.length yc]] w5 (PuY L s (.mk kn dn en (.slice ya ky.length yc) ky) w5)) := hidd hPA
        have HYB := hidd hyb
        have HK5 := hidd hK5
        have HBX := hidd hbx5
        clear hPA hyb hyo hyi hb5 hK5 hbx5 hB5 hK1 hbx a0 a1 a2 a3 a4 a5 a6 a7 a8 a9
        go_wp2_with fail
        refine HPA.out.mono ?_
        intro e w6 hP
        have hx6 := HBX.out.fr hP.1 HDS.out
        obtain ⟨vv, cv, rfl, hr6⟩ := HK5.out.put hL HN4.out (c := Tr.mk kn dn en (.slice na ksn.length nc) ksn) HYB.out hP
        clear hP HPA HYB HK5 HBX
        rcases hr6 with ⟨a, s', rfl, hK6⟩ | ⟨s', rfl, rfl, hQ6⟩
        · have HK6 := hidd hK6
          clear hK6 hx6
          go_wp2_with fail
          go_roundw
          case rel => exact ⟨i + 1, P, s', by omega, by go_num, by omega, HPM.out, by rw [← hnb1]; exact HK6.out⟩
          case measure => simp [intOf]; omega
        · have x3 := hx6.cell (i := 3) rfl
          have x4 := hx6.cell (i := 4) rfl
          have x5 := hx6.cell (i := 5) rfl
          have x6 := hx6.cell (i := 6) rfl
          have hA2 : Below w6.heap.size w6 (w6.alloc (.cells [Value.string kn, .string dn, .bool en, .slice na ksn.length nc].toArray 32)) := (Below.refl _ _).alloc (Nat.le_refl _) _
          have hQ7 := hQ6.later hL hA2
          have how1 := hQ7.rows.self
          have hs1 := Src.new (P := Tryz.prog) (size := 4) (tx := 29) Tryz.underlying29 w6 w6.heap.size rfl [.string kn, .string dn, .bool en, .slice na ksn.length nc] 32 rfl (by intro u hu; simp only [List.mem_cons, List.not_mem_nil, or_false] at hu; rcases hu with rfl | rfl | rfl | rfl <;> rfl) 1
          have HQ7 := hidd hQ7
          clear hQ6 hQ7 hA2 hx6
          go_wp2_with (at_builtin; refine wpList_append_ow _ rfl _ _ 29 29 rfl (fun g => (w6.alloc (.cells [Value.string kn, .string dn, .bool en, .slice na ksn.length nc].toArray 32)).heap.size ≤ g ∨ (Value.slice pa P.length pc).ownBlock = some g) ?cF 32 iN _ 4 64 Tryz.underlying29 hiN hN0 hN1 hN2 rfl (by decide) _ _ _ rfl (how1.mono (fun g hg => .inr hg)) _ _ _ rfl hs1 ?c3 ?c4 ?_)
          case cF => intro g hg; exact .inl hg
          case c3 => unfold maxLen; omega
          case c4 => omega
          intro v7 w7 how7 hg7
          obtain ⟨v7a, v7c, hv7⟩ := how7.shape
          have HK7 := hidd (HQ7.out.app hL ((Fr.refl _ _).grown hg7 (fun g hg => .inl hg)) (fun g hg => hg) (how7.mono (fun g hg => by
            rcases hg with h | h
            · exact .inl (by simpa using h)
            · exact .inr h)))
          clear how7 hg7 how1 hs1 HQ7 x3 x4 x5 x6
          subst hv7
          go_wp2_with fail
          go_roundw
          case rel => exact ⟨i + 1, P ++ [_], s', by omega, by go_num, by simp; omega, (fun c hc => by
            rcases List.mem_append.1 hc with h | h
            · exact HPM.out c h
            · simp only [List.mem_cons, List.not_mem_nil, or_false] at h
              subst h
              exact ⟨_, HMEM.out, rfl⟩), by rw [← hnb1]; exact HK7.out⟩
          case measure => simp [intOf]; omega
      | false =>
      cases hk2 : (kc.toList == [100, 114, 111, 112]) with
      | true =>
        have HDR := hidd (hK1.drop_any (E := E) (B := B) hL (HE.out _ (HBL.out _ hK1.bel)) HNUM.out.1 (by omega))
        clear hK1 hbx
        go_wp2_with fail
        refine HDR.out.mono ?_
        rintro e w6 ⟨⟨vv, rfl⟩, s', hK6⟩
        have HK6 := hidd hK6
        clear hK6 HDR
        go_wp2_with fail
        go_roundw
        case rel => exact ⟨i + 1, P, s', by omega, by go_num, by omega, HPM.out, by rw [← hnb1]; exact HK6.out⟩
        case measure => simp [intOf]; omega
      | false =>
      cases hk3 : (kc.toList == [115, 104, 97, 114, 101]) with
      | true =>
        have HSH := hidd ((dshare_any E B L s kk pc' mm _ hK1.di (HE.out _ (HBL.out _ hK1.bel)) (HM.out _ (HBL.out _ hK1.bel)) (by have := hK1.N; omega) HNUM.out.1 HNUM.out.2 (by have h1 : pc'.size ≤ 100 := HTSc.out.2.1; omega)).mono (fun e w6 hP => hK1.share hL hP))
        clear hK1 hbx
        go_wp2_with fail
        refine HSH.out.mono ?_
        rintro e w6 ⟨vv, s', rfl, hK6⟩
        have HK6 := hidd hK6
        clear hK6 HSH
        go_wp2_with fail
        go_roundw
        case rel => exact ⟨i + 1, P, s', by omega, by go_num, by omega, HPM.out, by rw [← hnb1]; exact HK6.out⟩
        case measure => simp [intOf]; omega
      | false =>
        have HK6 := hidd (hK1.more (nb' := 300 * (i + 1)) (by omega))
        clear hK1 hbx
        go_wp2_with fail
        go_roundw
        case rel => exact ⟨i + 1, P, s, by omega, by go_num, by omega, HPM.out, HK6.out⟩
        case measure => simp [intOf]; omega
    · obtain rfl : i = ls.length := by omega
      have hKN := hK.N
      have hKm := hK.nm
      have hKx := hK.nx
      have HTB := hidd (dtable_any L s wr hK.di.toDiM)
      have HTR := hidd (dtrees_any L s wr hK.di.toDiM (by omega) (by omega))
      have HK1 := hidd hK
      have HP := hidd (fun (c : Lt) (hc : c ∈ P) W (hW : Below w.heap.size w W) => (show c.Ok W from by
        obtain ⟨a, ha, rfl⟩ := hPm c hc
        exact (HV.out W hW).ok a ha))
      have HSN : Hid (s.N ≤ 7500 ∧ P.length ≤ 25) := hidd ⟨by omega, by omega⟩
      have p2 : ¬ ((ls.length : Int) < (ls.length : Int)) := by omega
      clear hK hPm hKN hKm hKx hPi hi hBr
      go_wp2_with fail
      refine HTB.out.mono ?_
      rintro e wx ⟨rfl, rfl⟩
      go_wp2_with fail
      refine HTR.out.mono ?_
      rintro e w6 ⟨kl, ka, kcap, hkl, hkl1, rfl, hksl, hb6⟩
      have hK6 := HK1.out.later hL hb6
      have hw6 := (HBL.out _ hK6.bel).size
      have HKL := hidd hkl
      have HKK := hidd (fun W (hW : Below w6.heap.size w6 W) => (⟨hK6.later hL hW, hksl.ob hW (Nat.le_refl _), HBL.out _ (hK6.later hL hW).bel⟩ : DlK w4 L P (.slice pa P.length pc) (300 * ls.length) s W ∧ Sl W (.slice ka kl.length kcap) (ints kl) kl.length 1 ∧ Below w.heap.size w W))
      clear hkl hksl hb6 hK6 HTB HTR HK1
      go_wp2_with fail
      go_loopw [15, 17, 18, 19, 20, 21, 22, 23] (fun lv iv _ _ _ _ _ _ wr => ∃ (j : Nat) (lk : List Nat), j ≤ kl.length ∧ iv = .int .i64 (j : Int) ∧ lk = inosD s.D (kl.take j) ∧ lk.length ≤ 200 * j ∧ Ow (fun g => w6.heap.size ≤ g) wr 3 1 lv lk.length (ints lk) ∧ Below w6.heap.size w6 wr) (fun _ iv _ _ _ _ _ _ _ => kl.length - (intOf iv).toNat)
      case atStart => exact ⟨0, [], Nat.zero_le _, rfl, rfl, by simp, Ow.nil _ _ _ _, Below.refl _ _⟩
      case round =>
        obtain ⟨j, lk, hj, rfl, hlk, hll, how, hbel⟩ := hrel
        obtain ⟨la, lc, rfl⟩ := how.shape
        by_cases hlj : j < kl.length
        · obtain ⟨hK2, hS2, hB2w⟩ := HKK.out _ hbel
          obtain ⟨b1, o1, rfl, hb16, hc1, hr16⟩ := (HKK.out w6 (Below.refl _ _)).2.1.at1 hlj
          rw [show (ints kl)[j] = .int .i64 (kl[j] : Int) by simp [ints]] at hr16
          have hr1 := (hbel.cell (p := ⟨b1, o1 + j, none⟩) hb16).trans hr16
          have hb1 := Nat.lt_of_lt_of_le hb16 hbel.size
          obtain ⟨e0, he0⟩ := Option.isSome_iff_exists.1 ((HKL.out.2 _).1 (List.getElem_mem hlj))
          obtain ⟨hkP, hsrc⟩ := hK2.src _ e0 he0
          have HLS := hidd (inosD_snoc s.D kl hlj)
          obtain ⟨k, hk⟩ : ∃ k, kl[j] = k := ⟨_, rfl⟩
          have HKJ := hidd hk
          rw [hk] at he0 HLS hr1
          have hkP' : k < P.length := by rw [← hk]; exact hkP
          have hsrc' : e0.src = P[k].bare := by rw [hsrc]; simp only [hk]
          obtain ⟨g1, g2⟩ := got_src hK2.di he0
          have hk64 : K64 (k : Int) := ⟨by omega, by have := HSN.out.2; omega⟩
          have HG := hidd (dget_some E B L s k e0 _ hK2.di (HE.out _ hB2w) hk64 (by have := HSN.out.1; omega) he0)
          have HGG := hidd (⟨g1, g2.trans hsrc'⟩ : (∀ q ∈ e0.fl, (rdP s.ls s.T e0.F q).isSome = true) ∧ fillT (rdG s e0) ⟨#[]⟩ e0.tr.bare = P[k].bare)
          have HW0 : Hid (treeE e0.src = 0 ∧ e0.src = P[k].bare) := hidd ⟨(hK2.di.well k e0 he0).right, hsrc'⟩
          have HE0 := hidd he0
          have HPK := hidd (fun W hW => HP.out P[k] (List.getElem_mem hkP') W hW)
          have HBK : Hid (b1 < w6.heap.size) := hidd hb16
          have p1 : (0 : Int) ≤ (j : Int) := by omega
          have p3 : (j : Int) < (kl.length : Int) := by omega
          have p4 : (0 : Int) ≤ (k : Int) := by omega
          have p5 : (k : Int) < (P.length : Int) := by omega
          have p6 : ¬ ((P.length : Int) ≤ (k : Int)) := by omega
          have p7 : decide ((P.length : Int) ≤ (k : Int)) = false := decide_eq_false p6
          have HLK := hidd hlk
          have HLL := hidd hll
          clear hr16 hb16 hK2 hS2 he0 hsrc hsrc' hkP g1 g2 hk hlk hll hc1
          go_wp2_with fail
          refine HG.out.mono ?_
          rintro e w7 ⟨hb7, ⟨y, he7, hyb, hyo, -, -⟩ | ⟨-, q', hq', hbad⟩⟩
          rotate_left
          · have := HGG.out.1 q' hq'
            rw [hbad] at this
            cases this
          have hyb' := hyb.trans HGG.out.2
          obtain ⟨ya, yc, hyv⟩ := hyo.shape
          have hy0 : treeE y = 0 := by
            have h1 : treeE y.bare = 0 := by rw [hyb', ← HW0.out.2]; exact HW0.out.1
            rw [show y.bare = y.map fun _ => () from rfl, treeE_map] at h1
            exact h1
          have hfl : fileL (listed y) = e0.fl := by
            show _ = fileL (listed e0.src)
            rw [HW0.out.2, ← hyb', fileL_bare hy0]
          have hfine := fileL_fine hy0
          rw [hfl] at hfine
          obtain ⟨ky, dy, ey, vy, ksy⟩ := y
          simp only [Tr.v, Tr.kids] at hyv
          subst hyv
          have he8 : e = .returned (.tuple #[.agg #[.string ky, .string dy, .bool ey, .slice ya ksy.length yc], .nilIface]) := he7
          subst he8
          have hx7 := Blk.new w7 [.string ky, .string dy, .bool ey, .slice ya ksy.length yc] 32
          have hb8 : Below wr.heap.size wr (w7.alloc (.cells #[.string ky, .string dy, .bool ey, .slice ya ksy.length yc] 32)) := hb7.alloc hb7.size _
          have hyo8 := hyo.alloc (.cells #[.string ky, .string dy, .bool ey, .slice ya ksy.length yc] 32)
          have hbel8 := hbel.trans (hb8.mono hbel.size)
          have how8 := how.ob hb8
          obtain ⟨hK8, hS8, hB8w⟩ := HKK.out _ hbel8
          have hr8 : (w7.alloc (.cells #[.string ky, .string dy, .bool ey, .slice ya ksy.length yc] 32)).cell? ⟨b1, o1 + j, none⟩ = some (.int .i64 (k : Int)) := (hb8.cell (p := ⟨b1, o1 + j, none⟩) hb1).trans hr1
          have hb18 := Nat.lt_of_lt_of_le hb1 hb8.size
          obtain ⟨b2, o2, hpa, hb2, d0, d1, d2, d3⟩ := sl_nd hK8.rows.sl hkP'
          have hpo := HPK.out _ hB8w
          subst hpa
          obtain ⟨c0, hc0⟩ : ∃ c, P[k] = c := ⟨_, rfl⟩
          rw [hc0] at d0 d1 d2 d3 hpo hyb'
          obtain ⟨na, nc, hnv⟩ := hpo.shape
          obtain ⟨kn, dn, en, vn, ksn⟩ := c0
          simp only [Tr.v, Tr.kids, Tr.kind, Tr.data, Tr.exec] at hnv d0 d1 d2 d3
          subst hnv
          have HFL := hidd hfl
          have HFI := hidd hfine
          have HYB := hidd hyb'
          have HB8 := hidd hbel8
          have HOW8 := hidd how8
          have HOWB : Hid (∀ g, (Value.slice la lk.length lc).ownBlock = some g → w6.heap.size ≤ g ∧ g < wr.heap.size) := hidd (fun g hg => how.blk g hg)
          have HYO8 := hidd hyo8
          have HQ8 : Hid (wr.heap.size ≤ w7.heap.size) := hidd hb7.size
          clear hfl hfine hy0 he7 hyb hyo hyb' hb7 hb8 hbel8 how8 how hK8 hS8 hB8w hbel hB2w hr1 hb1 HG HGG HW0 HPK hc0 hkP'
          go_wp2_with fail
          generalize w7.alloc (.cells #[.string ky, .string dy, .bool ey, .slice ya ksy.length yc] 32) = w8 at *
          have HC : Hid (∀ W, Below w8.heap.size w8 W → W.cell? ⟨w7.heap.size, 0, none⟩ = some (.string ky) ∧ W.cell? ⟨w7.heap.size, 1, none⟩ = some (.string dy) ∧ W.cell? ⟨w7.heap.size, 2, none⟩ = some (.bool ey) ∧ W.cell? ⟨w7.heap.size, 3, none⟩ = some (.slice ya ksy.length yc) ∧
              W.cell? ⟨b1, o1 + j, none⟩ = some (.int .i64 (k : Int)) ∧ W.cell? ⟨b2, o2 + k * 4, none⟩ = some (.string kn) ∧ W.cell? ⟨b2, o2 + k * 4 + 1, none⟩ = some (.string dn) ∧ W.cell? ⟨b2, o2 + k * 4 + 2, none⟩ = some (.bool en) ∧ W.cell? ⟨b2, o2 + k * 4 + 3, none⟩ = some (.slice na ksn.length nc) ∧ Below w8.heap.size w8 W) := hidd (fun W hW => by
            have hb := hx7.below hW hx7.lt
            exact ⟨hb.cell (i := 0) rfl, hb.cell (i := 1) rfl, hb.cell (i := 2) rfl, hb.cell (i := 3) rfl, (hW.cell (p := ⟨b1, o1 + j, none⟩) hb18).trans hr8, (hW.cell (p := ⟨b2, o2 + k * 4, none⟩) hb2).trans d0, (hW.cell (p := ⟨b2, o2 + k * 4 + 1, none⟩) hb2).trans d1, (hW.cell (p := ⟨b2, o2 + k * 4 + 2, none⟩) hb2).trans d2, (hW.cell (p := ⟨b2, o2 + k * 4 + 3, none⟩) hb2).trans d3, hW⟩)
          have HSM : Hid (∀ W, Below w8.heap.size w8 W → Calls Tryz.prog 15 #[.agg #[.string ky, .string dy, .bool ey, .slice ya ksy.length yc], .agg #[.string kn, .string dn, .bool en, .slice na ksn.length nc]] W fun e W' => e = .returned (.bool true) ∧ Below W.heap.size W W') := hidd (fun W hW => same_any (.mk ky dy ey (.slice ya ksy.length yc) ksy) (.mk kn dn en (.slice na ksn.length nc) ksn) W true (HYO8.out.ob hW) (hpo.ob hW) ⟨fun _ => HYB.out, fun _ => rfl⟩)
          have hB8 : Below w8.heap.size w8 w8 := Below.refl _ _
          have HX8 := hidd hx7
          have hKJ8 := HC.out _ hB8
          have HR8 := hidd (⟨hr8, hb18⟩ : w8.cell? ⟨b1, o1 + j, none⟩ = some (.int .i64 (k : Int)) ∧ b1 < w8.heap.size)
          clear hx7 hr8 hb18 d0 d1 d2 d3 hb2 hpo hKJ8
          go_region_held3 (fun W => W.cell? ⟨w7.heap.size, 0, none⟩ = some (.string ky) ∧ W.cell? ⟨w7.heap.size, 1, none⟩ = some (.string dy) ∧ W.cell? ⟨w7.heap.size, 2, none⟩ = some (.bool ey) ∧ W.cell? ⟨w7.heap.size, 3, none⟩ = some (.slice ya ksy.length yc) ∧
              W.cell? ⟨b1, o1 + j, none⟩ = some (.int .i64 (k : Int)) ∧ W.cell? ⟨b2, o2 + k * 4, none⟩ = some (.string kn) ∧ W.cell? ⟨b2, o2 + k * 4 + 1, none⟩ = some (.string dn) ∧ W.cell? ⟨b2, o2 + k * 4 + 2, none⟩ = some (.bool en) ∧ W.cell? ⟨b2, o2 + k * 4 + 3, none⟩ = some (.slice na ksn.length nc) ∧ Below w8.heap.size w8 W)
            (first | exact HC.out _ hB8.drew | exact HC.out _ (hB8.drew.trans (hb9.mono hB8.size)))
            (first | (go_at_call 15; refine (HSM.out _ hB8.drew).mono ?_; rintro e w9 ⟨rfl, hb9⟩))
          have hB9 := hB8.drew.trans (hb9.mono (hB8.drew).size)
          have hx9 := HX8.out.below hB9 HX8.out.lt
          have y0 := hx9.cell (i := 0) rfl
          have y1 := hx9.cell (i := 1) rfl
          have y2 := hx9.cell (i := 2) rfl
          have y3 := hx9.cell (i := 3) rfl
          have hB69 := HB8.out.trans (hB9.mono HB8.out.size)
          have HF9 := hidd (files_any E B _ w9 (HYO8.out.ob hB9) (HE.out _ (HKK.out _ hB69).2.2).di)
          rw [HFL.out] at HF9
          have HF9 : Hid (Calls Tryz.prog 16 #[.agg #[.string ky, .string dy, .bool ey, .slice ya ksy.length yc]] w9 (FilesP e0.fl w9)) := HF9
          have HOW9 := hidd (HOW8.out.ob hB9)
          have HB69 := hidd hB69
          have hq9 : wr.heap.size ≤ w9.heap.size := by have h1 := HX8.out.lt; have h2 := hB9.size; have h3 := HQ8.out; omega
          have HR9 : Hid (w9.cell? ⟨b1, o1 + j, none⟩ = some (.int .i64 (k : Int)) ∧ b1 < w9.heap.size) := hidd ⟨(hB9.cell (p := ⟨b1, o1 + j, none⟩) HR8.out.2).trans HR8.out.1, Nat.lt_of_lt_of_le HR8.out.2 hB9.size⟩
          clear hx9 hb9 hB9 hB8 hB69 HC HSM HX8 HR8 HOW8 HB8 HYO8 HFL HYB HQ8
          go_wp2_with fail
          refine HF9.out.mono ?_
          rintro e w10 ⟨fv, rfl, hfo, hb10⟩
          obtain ⟨fa, fc, rfl⟩ := hfo.shape
          obtain ⟨fl, hfle⟩ : ∃ l, e0.fl = l := ⟨_, rfl⟩
          have HIS : Hid (∀ t (ht : t < fl.length), ∀ n, e0.F fl[t] = some n → ((fl.map fun q => (e0.F q).getD 0).take (t + 1)) = ((fl.map fun q => (e0.F q).getD 0).take t) ++ [n]) := hidd (by subst hfle; exact fun t ht n hF => (inosE_at ht hF).2)
          have HIN0 : Hid (inosE (s.D k) = fl.map fun q => (e0.F q).getD 0) := hidd (by rw [HE0.out, ← hfle]; rfl)
          have HFE := hidd hfle
          rw [hfle] at hfo HFI ⊢
          have HFW := hidd (fun W (hW : Fr (fun g => (Value.slice la lk.length lc).ownBlock = some g) w10 W) => by
            have hB10 := HB69.out.trans (hb10.mono HB69.out.size)
            have hBW : Below w6.heap.size w10 W := hW.below hB10.size (fun b hb => (HOWB.out b hb).1)
            have h1 := (hfo.fr hW (fun g hg hd => by have := (hfo.blk g hg).1; have := (HOWB.out g hd).2; omega)).sl
            have h2 : W.cell? ⟨b1, o1 + j, none⟩ = some (.int .i64 (k : Int)) := hW.cell ((hb10.cell (p := ⟨b1, o1 + j, none⟩) HR9.out.2).trans HR9.out.1) (fun hd => by have h3 := (HOWB.out b1 hd).1; have h4 := HBK.out; omega)
            exact (⟨h1, h2, hB10.trans hBW⟩ : Sl W (.slice fa fl.length fc) (tcells fl) fl.length 1 ∧ W.cell? ⟨b1, o1 + j, none⟩ = some (.int .i64 (k : Int)) ∧ Below w6.heap.size w6 W))
          have hown := (HOW9.out.ob hb10).selfB w10.heap.size
          have HOWN := hidd hown
          have HZ10 : Hid (w6.heap.size ≤ w10.heap.size) := hidd (Nat.le_trans HB69.out.size hb10.size)
          have hfl2 : fl.length ≤ 200 := HFI.out.2
          clear hfo hb10 hown hfle HF9 HOW9 HB69 HR9 y0 y1 y2 y3
          go_wp2_with fail
          go_loopw [15, 21, 22, 23] (fun lv kv _ _ wr => ∃ t : Nat, t ≤ fl.length ∧ kv = .int .i64 (t : Int) ∧ Ow (fun g => w6.heap.size ≤ g ∧ ((Value.slice la lk.length lc).ownBlock = some g ∨ w10.heap.size ≤ g)) wr 3 1 lv (lk.length + t) (ints (lk ++ (fl.map fun q => (e0.F q).getD 0).take t)) ∧ Fr (fun g => (Value.slice la lk.length lc).ownBlock = some g) w10 wr) (fun _ kv _ _ _ => fl.length - (intOf kv).toNat)
          case atStart => exact ⟨0, Nat.zero_le _, rfl, by simpa using HOWN.out, Fr.refl _ _⟩
          case round =>
            obtain ⟨t, ht, rfl, hot, hfr⟩ := hrel
            obtain ⟨ua, uc, rfl⟩ := hot.shape
            obtain ⟨hfs, hkc, hbW⟩ := HFW.out wr hfr
            clear HOWN
            by_cases htl : t < fl.length
            · obtain ⟨b3, o3, rfl, hb3, hc3, hr3⟩ := hfs.at1 htl
              rw [show (tcells fl)[t] = .string fl[t] by simp [tcells]] at hr3
              obtain ⟨n, x, hFn, -, hin⟩ := fl_ino (HKK.out _ hbW).1.di HE0.out (q := fl[t]) (by rw [HFE.out]; exact List.getElem_mem htl)
              have hs1 := HFI.out.1 _ (List.getElem_mem htl)
              have HIT := hidd (HIS.out t htl n hFn)
              obtain ⟨q, hq⟩ : ∃ q, fl[t] = q := ⟨_, rfl⟩
              rw [hq] at hr3 hin hs1
              have hk64' : K64 (k : Int) := hk64
              have hDi := (HKK.out _ hbW).1.di.toDiM
              have hBw2 := (HKK.out _ hbW).2.2
              have HIA := hidd (fun W (hW : Below wr.heap.size wr W) => (dinode_any E B L s (k : Int) q W (hDi.low hW) ((HE.out _ hBw2).ob hW) ((HM.out _ hBw2).ob hW) hk64' (by omega)).mono (fun e w' h => (show e = .returned (.tuple #[.int .i64 (n : Int), .nilIface]) ∧ Below W.heap.size W w' from ⟨by rw [h.1, hin]; rfl, h.2⟩)))
              have HC : Hid (∀ W, Below wr.heap.size wr W → W.cell? ⟨b1, o1 + j, none⟩ = some (.int .i64 (k : Int)) ∧ W.cell? ⟨b3, o3 + t, none⟩ = some (.string q) ∧ Below wr.heap.size wr W) := hidd (fun W hW => ⟨(hW.cell (p := ⟨b1, o1 + j, none⟩) (World.block_lt_of_cell? _ _ hkc)).trans hkc, (hW.cell (p := ⟨b3, o3 + t, none⟩) hb3).trans hr3, hW⟩)
              have hBp : Below wr.heap.size wr wr := Below.refl _ _
              have HOT := hidd hot
              have HFR := hidd hfr
              have q1 : (0 : Int) ≤ (t : Int) := by omega
              have q2 : (t : Int) < (fl.length : Int) := by omega
              clear hot hfr hfs hkc hr3 hb3 hc3 hFn hin hs1 hq hDi hBw2 hbW
              go_wp2_with fail
              go_region_held3 (fun W => W.cell? ⟨b1, o1 + j, none⟩ = some (.int .i64 (k : Int)) ∧ W.cell? ⟨b3, o3 + t, none⟩ = some (.string q) ∧ Below wr.heap.size wr W)
                (first | exact HC.out _ hBp.drew | exact HC.out _ (hBp.drew.trans (hb11.mono hBp.size)))
                (first | (go_at_call 17; refine (HIA.out _ hBp.drew).mono ?_; rintro e w11 ⟨rfl, hb11⟩))
              have hB11 := hBp.drew.trans (hb11.mono (hBp.drew).size)
              have hA12 : Below w11.heap.size w11 (w11.alloc (.cells #[.int .i64 (n : Int)] 3)) := (Below.refl _ _).alloc (Nat.le_refl _) _
              have hB12 := hB11.trans (hA12.mono hB11.size)
              have how1 := HOT.out.ob hB12
              have HF12 := hidd (HFR.out.trans (Fr.ob hB12))
              have hs1 := Src.new (P := Tryz.prog) (size := 1) (tx := 44) Tryz.underlying44 w11 w11.heap.size rfl [.int .i64 (n : Int)] 3 rfl (by intro u hu; simp only [List.mem_cons, List.not_mem_nil, or_false] at hu; rcases hu with rfl; rfl) 1
              have HZ12 : Hid (w10.heap.size ≤ w11.heap.size ∧ w6.heap.size ≤ w11.heap.size) := hidd (by have h1 := HFR.out.size; have h2 := hB11.size; have h3 := HZ10.out; exact ⟨by omega, by omega⟩)
              have hln : lk.length + t ≤ 300000000 := by have := HLL.out; have := hkl1; omega
              clear hb11 hB11 hA12 hB12 hBp HC HIA HFR HOT
              go_wp2_with (at_builtin; refine wpList_append_ow _ rfl _ _ 44 44 rfl (fun g => w6.heap.size ≤ g ∧ ((Value.slice la lk.length lc).ownBlock = some g ∨ w10.heap.size ≤ g)) ?cF 3 iI _ 1 8 Tryz.underlying44 hiI hI0 hI1 hI2 rfl (by decide) _ _ _ rfl how1 _ _ _ rfl hs1 ?c3 ?c4 ?_)
              case cF => intro g hg; have h1 := HZ12.out; simp at hg; exact ⟨by omega, .inr (by omega)⟩
              case c3 => unfold maxLen; omega
              case c4 => omega
              intro v7 w7' how7 hg7
              obtain ⟨v7a, v7c, hv7⟩ := how7.shape
              have HF13 := hidd (HF12.out.grown hg7 (fun g hg => (how1.blk g hg).1.2))
              have HO13 : Hid (Ow (fun g => w6.heap.size ≤ g ∧ ((Value.slice la lk.length lc).ownBlock = some g ∨ w10.heap.size ≤ g)) w7' 3 1 v7 (lk.length + (t + 1)) (ints (lk ++ (fl.map fun q => (e0.F q).getD 0).take (t + 1)))) := hidd (by
                rw [HIT.out, ← List.append_assoc, ints_snoc]
                exact how7)
              clear how7 hg7 how1 hs1 HF12
              subst hv7
              go_wp2_with fail
              go_roundw
              case rel => exact ⟨t + 1, by omega, by go_num, HO13.out, HF13.out⟩
              case measure => simp [intOf]; omega
            · obtain rfl : t = fl.length := by omega
              have HO13 : Hid (Ow (fun g => w6.heap.size ≤ g) wr 3 1 (.slice ua (lk.length + fl.length) uc) (inosD s.D (kl.take (j + 1))).length (ints (inosD s.D (kl.take (j + 1)))) ∧ (inosD s.D (kl.take (j + 1))).length ≤ 200 * (j + 1)) := hidd (by
                have h1 : inosD s.D (kl.take (j + 1)) = lk ++ fl.map fun q => (e0.F q).getD 0 := by rw [HLS.out, HIN0.out, ← HLK.out]
                have h2 := HLL.out
                rw [h1]
                rw [List.take_of_length_le (by simp)] at hot
                rw [List.length_append, List.length_map]
                exact ⟨hot.mono (fun g hg => hg.1), by omega⟩)
              have HBW := hidd hbW
              have q2 : ¬ ((fl.length : Int) < (fl.length : Int)) := by omega
              clear hot hfr hfs hkc hbW
              go_wp2_with fail
              go_roundw
              case rel => exact ⟨j + 1, _, by omega, by go_num, rfl, HO13.out.2, HO13.out.1, HBW.out⟩
              case measure => simp [intOf]; omega
        · obtain rfl : j = kl.length := by omega
          rw [List.take_of_length_le (Nat.le_refl _)] at hlk
          obtain ⟨hK2, -, hBw2⟩ := HKK.out _ hbel
          have HAL := hidd (all_any L.B L.t L.p L.r L.ps L.rs L.m s.N s.T s.us s.ls wr hK2.di.tb (by have := HSN.out.1; omega))
          have HLE := hidd (fun a x (hx : s.T a = some x) => (show cntL lk a = x.links ∧ 1 ≤ x.links ∧ a ≤ 1000000 from by
            have h1 := links_end hK2.di HKL.out hx
            rw [← hlk] at h1
            exact ⟨h1.1, h1.2, by have h2 := hK2.di.klt hx; have := HSN.out.1; omega⟩))
          have HQ := hidd (fun W (hW : Below wr.heap.size wr W) => (⟨how.sl.ob hW (Nat.le_refl _), (hK2.di.low hW).tb, hBw2.trans (hW.mono hBw2.size)⟩ : Sl W (.slice la lk.length lc) (ints lk) lk.length 1 ∧ TbAt True W L.B L.t L.p L.r L.ps L.rs L.m s.N s.T s.us s.ls ∧ Below w.heap.size w W))
          have hll2 : lk.length ≤ 200000000 := by omega
          have q2 : ¬ ((kl.length : Int) < (kl.length : Int)) := by omega
          clear hK2 hBw2 hlk how hbel hll hj HKL HKK HSN HP
          go_wp2_with fail
          refine HAL.out.mono ?_
          rintro e w7 ⟨al, aa, ac, hal, hal1, rfl, hasl, hb7⟩
          have HA := hidd hal
          have HAS := hidd (fun W (hW : Below w7.heap.size w7 W) => (⟨hasl.ob hW (Nat.le_refl _), HQ.out W (hb7.trans (hW.mono hb7.size))⟩ : Sl W (.slice aa al.length ac) (ints al) al.length 1 ∧ Sl W (.slice la lk.length lc) (ints lk) lk.length 1 ∧ TbAt True W L.B L.t L.p L.r L.ps L.rs L.m s.N s.T s.us s.ls ∧ Below w.heap.size w W))
          clear hal hasl hb7 HAL HQ
          go_wp2_with fail
          go_loopw [25, 26, 27, 28, 29] (fun iv _ _ _ _ wr => ∃ i : Nat, i ≤ al.length ∧ iv = .int .i64 (i : Int) ∧ Below w7.heap.size w7 wr) (fun iv _ _ _ _ _ => al.length - (intOf iv).toNat)
          case atStart => exact ⟨0, Nat.zero_le _, rfl, Below.refl _ _⟩
          case round =>
            obtain ⟨i, hi, rfl, hbel⟩ := hrel
            obtain ⟨hAl, hLk, hTb, hBw⟩ := HAS.out _ hbel
            by_cases hil : i < al.length
            · obtain ⟨b1, o1, rfl, hb1, hc1, hr1⟩ := hAl.at1 hil
              rw [show (ints al)[i] = .int .i64 (al[i] : Int) by simp [ints]] at hr1
              obtain ⟨x, hx⟩ := Option.isSome_iff_exists.1 ((HA.out.2 _).1 (List.getElem_mem hil))
              obtain ⟨a, ha⟩ : ∃ a, al[i] = a := ⟨_, rfl⟩
              rw [ha] at hr1 hx
              obtain ⟨hce, hpos, ha6⟩ := HLE.out a x hx
              have HST := hidd (stat_ok L.B L.t L.p L.r L.ps L.rs L.m s.N s.T s.us s.ls a x wr hTb ha6 hx)
              have p1 : (0 : Int) ≤ (i : Int) := by omega
              have p3 : (i : Int) < (al.length : Int) := by omega
              have HBL2 := hidd hbel
              have HCE := hidd (⟨hce, hpos⟩ : cntL lk a = x.links ∧ 1 ≤ x.links)
              clear hAl hLk hTb hBw hc1 ha hx hce hpos hbel
              go_wp2_with fail
              refine HST.out.mono ?_
              rintro e w8 ⟨sa, sc, rfl, -, hb8⟩
              obtain ⟨xd, hxd⟩ : ∃ v : Int, ((x.data.size : Nat) : Int) = v := ⟨_, rfl⟩
              obtain ⟨xc, hxc⟩ : ∃ v : Int, ((crc x.data.data.toList : Nat) : Int) = v := ⟨_, rfl⟩
              obtain ⟨xb, hxb⟩ : ∃ v : Nat, x.bl.length = v := ⟨_, rfl⟩
              obtain ⟨xl, hxl⟩ : ∃ v : Nat, x.links = v := ⟨_, rfl⟩
              obtain ⟨xe, hxe⟩ : ∃ v : Bool, x.exec = v := ⟨_, rfl⟩
              rw [hxd, hxc, hxb, hxl, hxe]
              have hx9 := Blk.new w8 [.int .i64 xd, .int .i64 (xl : Int), .bool xe, .slice sa xb sc, .int .u32 xc] 54
              have hb9 : Below wr.heap.size wr (w8.alloc (.cells #[.int .i64 xd, .int .i64 (xl : Int), .bool xe, .slice sa xb sc, .int .u32 xc] 54)) := hb8.alloc hb8.size _
              have hr9 : (w8.alloc (.cells #[.int .i64 xd, .int .i64 (xl : Int), .bool xe, .slice sa xb sc, .int .u32 xc] 54)).cell? ⟨b1, o1 + i, none⟩ = some (.int .i64 (a : Int)) := (hb9.cell (p := ⟨b1, o1 + i, none⟩) hb1).trans hr1
              have hb19 := Nat.lt_of_lt_of_le hb1 hb9.size
              have HB9 := hidd (HBL2.out.trans (hb9.mono HBL2.out.size))
              have hce' : cntL lk a = xl ∧ 1 ≤ xl := by rw [← hxl]; exact HCE.out
              have HCX := hidd hce'
              clear hb8 hb9 hr1 hb1 HST HCE hxd hxc hxb hxl hxe hce'
              go_upto_region 47 with fail
              generalize w8.alloc (.cells #[.int .i64 xd, .int .i64 (xl : Int), .bool xe, .slice sa xb sc, .int .u32 xc] 54) = w9 at *
              have HC9 := hidd (fun W (hW : Below w9.heap.size w9 W) => (⟨(hW.cell (p := ⟨b1, o1 + i, none⟩) hb19).trans hr9, (hx9.below hW hx9.lt).cell (i := 1) rfl, (HAS.out W (HB9.out.trans (hW.mono HB9.out.size))).2.1⟩ : W.cell? ⟨b1, o1 + i, none⟩ = some (.int .i64 (a : Int)) ∧ W.cell? ⟨w8.heap.size, 1, none⟩ = some (.int .i64 (xl : Int)) ∧ Sl W (.slice la lk.length lc) (ints lk) lk.length 1))
              clear hx9 hr9 hb19
              go_wp2_with fail
              go_loopw [28, 29] (fun cv kv wr => ∃ t : Nat, t ≤ lk.length ∧ kv = .int .i64 (t : Int) ∧ cv = .int .i64 ((cntL (lk.take t) a : Nat) : Int) ∧ Below w9.heap.size w9 wr) (fun _ kv _ => lk.length - (intOf kv).toNat)
              case atStart => exact ⟨0, Nat.zero_le _, rfl, rfl, Below.refl _ _⟩
              case round =>
                obtain ⟨t, ht, rfl, rfl, hbp⟩ := hrel
                obtain ⟨g1, g2, g3⟩ := HC9.out _ hbp
                have hcl : cntL (lk.take t) a ≤ t := by
                  unfold cntL
                  have := List.length_filter_le (fun m => decide (m = a)) (lk.take t)
                  rw [List.length_take] at this
                  omega
                by_cases htl : t < lk.length
                · obtain ⟨b3, o3, rfl, hb3, hc3, hr3⟩ := g3.at1 htl
                  rw [show (ints lk)[t] = .int .i64 (lk[t] : Int) by simp [ints]] at hr3
                  have HTK := hidd (cntL_take lk a t htl)
                  obtain ⟨b, hb⟩ : ∃ b, lk[t] = b := ⟨_, rfl⟩
                  rw [hb] at hr3 HTK
                  obtain ⟨cn, hcn⟩ : ∃ c, cntL (lk.take t) a = c := ⟨_, rfl⟩
                  rw [hcn] at hcl HTK ⊢
                  have HBP := hidd hbp
                  have q1 : (0 : Int) ≤ (t : Int) := by omega
                  have q2 : (t : Int) < (lk.length : Int) := by omega
                  clear g3 hc3 hb3 hb hcn hbp g2
                  by_cases hba : b = a
                  · have e1 : ((b : Int) == (a : Int)) = true := by simp [hba]
                    have e2 : (b == a) = true := by simp [hba]
                    have HN : Hid (cntL (lk.take (t + 1)) a = cn + 1) := hidd (by rw [HTK.out, if_pos hba])
                    clear hba HTK
                    go_wp2_with fail
                    go_quiet (fail)
                    go_wp2_with fail
                    go_roundw
                    case rel => exact ⟨t + 1, by omega, by go_num, by rw [HN.out]; go_num, HBP.out.trans ((Below.drewN _ _ _).mono HBP.out.size)⟩
                    case measure => simp [intOf]; omega
                  · have e1 : ((b : Int) == (a : Int)) = false := by simp; omega
                    have e2 : (b == a) = false := by simp [hba]
                    have HN : Hid (cntL (lk.take (t + 1)) a = cn) := hidd (by rw [HTK.out, if_neg hba]; rfl)
                    clear hba HTK
                    go_wp2_with fail
                    go_quiet (fail)
                    go_wp2_with fail
                    go_roundw
                    case rel => exact ⟨t + 1, by omega, by go_num, by rw [HN.out], HBP.out.trans ((Below.drewN _ _ _).mono HBP.out.size)⟩
                    case measure => simp [intOf]; omega
                · obtain rfl : t = lk.length := by omega
                  have h1 := HCX.out
                  rw [List.take_of_length_le (Nat.le_refl _)] at hcl ⊢
                  rw [h1.1] at hcl ⊢
                  have h2 := h1.2
                  have e1 : ((xl : Int) == (0 : Int)) = false := by simp; omega
                  have e2 : (xl == 0) = false := by simp; omega
                  have q2 : ¬ ((lk.length : Int) < (lk.length : Int)) := by omega
                  have HBP := hidd (HB9.out.trans (hbp.mono HB9.out.size))
                  clear h1 h2 g1 g3 hbp
                  go_wp2_with fail
                  go_roundw
                  case rel => exact ⟨i + 1, by omega, by go_num, HBP.out⟩
                  case measure => simp [intOf]; omega
            · obtain rfl : i = al.length := by omega
              have HBW := hidd hBw
              have q2 : ¬ ((al.length : Int) < (al.length : Int)) := by omega
              clear hAl hLk hTb hBw hbel
              go_wp2_with fail
              go_ret
              exact ⟨rfl, HBW.out⟩
end Go.Proofs.YtoemahhpheobkaaGreatDoor
