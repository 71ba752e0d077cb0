/- OptSame, walked. Condition: the arguments and the variables are there. -/
import Derived.Test.YtoemahhpheobkaaGreatDoorOpE
import Derived.Test.YtoemahhpheobkaaGreatDoorDlW
namespace Go.Proofs.YtoemahhpheobkaaGreatDoor
open Go.RowKit Go.Shelf

/-- Between two acts. -/
structure OsK (w3 : World) (L : Loc) (j : Nat) (s : St) (W : World) : Prop where
  di : DiAt True W L s
  bel : Below L.B w3 W
  N : s.N ≤ 300 * j
  nm : s.nm ≤ 300 * j
  nx : s.nx ≤ j
section
variable {w3 : World} {L : Loc} {j : Nat} {s : St} {W W' : World}
theorem OsK.start {us : List Bool} {ls : List ByteArray} (h : DiAt True w3 L ⟨0, 0, fun _ => none, us, ls, fun _ => none, 0⟩) : OsK w3 L 0 ⟨0, 0, fun _ => none, us, ls, fun _ => none, 0⟩ w3 :=
  ⟨h, Below.refl _ _, Nat.le_refl _, Nat.le_refl _, Nat.le_refl _⟩
theorem OsK.later (h : OsK w3 L j s W) (hL : L.B ≤ w3.heap.size) (hb : Below W.heap.size W W') : OsK w3 L j s W' :=
  { h with di := h.di.low hb, bel := h.bel.trans (hb.mono (Nat.le_trans hL h.bel.size)) }
theorem OsK.next (h : OsK w3 L j s W) : OsK w3 L (j + 1) s W := { h with N := by have := h.N; omega, nm := by have := h.nm; omega, nx := by have := h.nx; omega }
theorem OsK.put (h : OsK w3 L j s W) (hL : L.B ≤ w3.heap.size) {t : Lt} {e : Ending} (hP : PuY L s t W e W') : ∃ (v : Int) (cv : Value) (s' : St), e = .returned (.tuple #[.int .i64 v, cv]) ∧ OsK w3 L (j + 1) s' W' := by
  obtain ⟨hf, v, cv, s', rfl, hd, hN, hnm, hS, hr⟩ := hP
  have h1 := h.N
  have h2 := h.nm
  have h3 := h.nx
  refine ⟨v, cv, s', rfl, hd, h.bel.trans (hf.below (Nat.le_trans hL h.bel.size) h.di.toDiM.baseS), by omega, by omega, ?_⟩
  rcases hr with ⟨-, hx, -⟩ | ⟨-, -, hx, -⟩ <;> omega
theorem OsK.drop_any {E : Nat → Addr} {B : Nat} (h : OsK w3 L j s W) (hL : L.B ≤ w3.heap.size) (hE : Env diGs B W E) {k : Int} (hk : K64 k) (hj : j ≤ 1000) :
    Calls Tryz.prog 10 #[.pointer (some ⟨L.d, 0, none⟩), .int .i64 k] W fun e W' => (∃ v, e = .returned v) ∧ ∃ s', OsK w3 L (j + 1) s' W' := by
  cases hd : dmF s.D k with
  | none =>
    refine (ddrop_none E B L s k W h.di.toDiM hE hk hd).mono ?_
    rintro e W' ⟨rfl, hb⟩
    exact ⟨⟨_, rfl⟩, s, (h.later hL hb).next⟩
  | some u =>
    have h0 : 0 ≤ k := by
      by_cases h0 : 0 ≤ k
      · exact h0
      · unfold dmF at hd; rw [if_neg h0] at hd; cases hd
    obtain ⟨i, rfl⟩ : ∃ i : Nat, k = (i : Int) := ⟨k.toNat, by omega⟩
    rw [dmF_nat] at hd
    obtain ⟨e0, he0, -⟩ := Option.map_eq_some_iff.1 hd
    have h200 : e0.fl.length ≤ 200 := by
      have hr := (h.di.well i e0 he0).right
      show (fileL (listed e0.src)).length ≤ 200
      rw [fileL_R hr, List.length_map]
      have h1 : (filesR (e0.src.map fun _ => Value.nilIface)).length ≤ 200 := filesR_le (by rw [treeE_map]; exact hr)
      rw [filesR_mapd, List.length_map] at h1
      exact h1
    refine (ddrop_some L s i e0 W h.di hk (by have := h.N; omega) he0 h200).mono ?_
    rintro e W' ⟨rfl, hf, T', us', hd', -⟩
    refine ⟨⟨_, rfl⟩, _, hd', h.bel.trans (hf.below (Nat.le_trans hL h.bel.size) h.di.toDiM.baseS), ?_, ?_, ?_⟩
    · show s.N + 300 ≤ _; have := h.N; omega
    · show s.nm ≤ _; have := h.nm; omega
    · show s.nx ≤ _; have := h.nx; omega
theorem OsK.bad (h : OsK w3 L j s W) (K : Nat) : badD s.ls s.T K s.D s.nx ≤ 200 * j := by
  refine Nat.le_trans (badD_max (fun k e he => ?_) s.nx) ?_
  · have hr := (h.di.well k e he).right
    show (fileL (listed e.src)).length ≤ 200
    rw [fileL_R hr, List.length_map]
    have h1 : (filesR (e.src.map fun _ => Value.nilIface)).length ≤ 200 := filesR_le (by rw [treeE_map]; exact hr)
    rw [filesR_mapd, List.length_map] at h1
    exact h1
  · have := h.nx
    rw [Nat.mul_comm]
    exact Nat.mul_le_mul_left 200 this
end
/-- The trees that were got. -/
structure WsI (z : Nat) (D : Nat → Option Dt) (kl : List Nat) (Q : List Lt) (v : Value) (W : World) : Prop where
  rows : Ow (fun g => z ≤ g) W 32 4 v Q.length (ndcells Q)
  ok : ∀ c ∈ Q, c.Ok W
  inn : ∀ c ∈ Q, c.In (fun b => z ≤ b ∧ v.ownBlock ≠ some b)
  src : ∀ i (h : i < Q.length) (h' : i < kl.length) e, D kl[i] = some e → Q[i].bare = e.src
section
variable {z : Nat} {D : Nat → Option Dt} {kl : List Nat} {Q : List Lt} {v v' : Value} {W W' : World}
theorem WsI.later (h : WsI z D kl Q v W) (hb : Below W.heap.size W W') : WsI z D kl Q v W' := { h with rows := h.rows.ob hb, ok := fun c hc => (h.ok c hc).ob hb }
theorem WsI.fr {S : Nat → Prop} (h : WsI z D kl Q v W) (hf : Fr S W W') (hS : ∀ b, S b → b < z) : WsI z D kl Q v W' :=
  { h with
    rows := h.rows.fr hf (fun g hg hs => by have h1 := (h.rows.blk g hg).1; have h2 := hS g hs; omega)
    ok := fun c hc => ok_fr hf c (h.ok c hc) (in_mono (fun b hb hs => by have h1 := hb.1; have h2 := hS b hs; omega) c (h.inn c hc)) }
theorem WsI.app (h : WsI z D kl Q v W) {y : Lt} (hy : y.Ok W) (hyi : y.In (fun b => z ≤ b ∧ v.ownBlock ≠ some b)) (hz : z ≤ W.heap.size) (hf : Fr (fun b => v.ownBlock = some b) W W') {F : Nat → Prop} (hF : ∀ g, F g → W.heap.size ≤ g ∨ v.ownBlock = some g)
    (hr : Ow F W' 32 4 v' (Q.length + 1) (ndcells Q ++ ncells y)) (hs : ∀ (h' : Q.length < kl.length) e, D kl[Q.length] = some e → y.bare = e.src) : WsI z D kl (Q ++ [y]) v' W' := by
  have key : ∀ c : Lt, c.Ok W → c.In (fun b => z ≤ b ∧ v.ownBlock ≠ some b) → c.Ok W' ∧ c.In (fun b => z ≤ b ∧ v'.ownBlock ≠ some b) := fun c hc hi => by
    refine ⟨ok_fr hf c hc (in_mono (fun b hb => hb.2) c hi), in_mono (fun b hb => ⟨hb.1.1, fun e => ?_⟩) c (in_and c hi (ok_in c hc))⟩
    rcases hF b (hr.blk b e).1 with h1 | h1
    · have := hb.2; omega
    · exact hb.1.2 h1
  refine ⟨?_, fun c hc => ?_, fun c hc => ?_, fun i hi hk e he => ?_⟩
  · have e1 : ndcells (Q ++ [y]) = ndcells Q ++ ncells y := by unfold ndcells; rw [List.flatMap_append]; simp
    rw [e1, List.length_append]
    refine hr.mono (fun g hg => ?_)
    rcases hF g hg with h1 | h1
    · omega
    · exact (h.rows.blk g h1).1
  · rcases List.mem_append.1 hc with h1 | h1
    · exact (key c (h.ok c h1) (h.inn c h1)).1
    · simp only [List.mem_cons, List.not_mem_nil, or_false] at h1
      subst h1; exact (key c hy hyi).1
  · rcases List.mem_append.1 hc with h1 | h1
    · exact (key c (h.ok c h1) (h.inn c h1)).2
    · simp only [List.mem_cons, List.not_mem_nil, or_false] at h1
      subst h1; exact (key c hy hyi).2
  · by_cases hlt : i < Q.length
    · rw [List.getElem_append_left hlt]
      exact h.src i hlt hk e he
    · obtain rfl : i = Q.length := by simp at hi; omega
      rw [List.getElem_append_right (Nat.le_refl _)]
      simp only [Nat.sub_self, List.getElem_cons_zero]
      exact hs hk e he
end

set_option maxRecDepth 100000 in
set_option maxHeartbeats 40000000 in
theorem optSame_true (E : Nat → Addr) (B : Nat) (n : Int) (v : Value) (ls : List Ta) (w : World) (_hn : K64 n) (hv : TaI ls v w) (hE : Env diGs B w E) (hM : Ml w) :
    Calls Tryz.prog 4 #[.int .i64 n, v] w fun e w' => e = .returned (.bool true) ∧ Below w.heap.size w w' := by
  have hMl : 10 < w.heap.size := by
    obtain ⟨mv, hmv⟩ := hM
    exact World.block_lt_of_cell? w _ hmv
  have hBw := hE.size
  obtain ⟨va, vc, rfl, -⟩ := id hv.sl
  have HV := hidd (fun W (h : Below w.heap.size w W) => hv.ob h)
  have HE := hidd (fun W (h : Below w.heap.size w W) => hE.ob h)
  have HM := hidd (fun W (h : Below w.heap.size w W) => hM.ob h)
  have HD := hidd (shared_true E B w hE hM hMl)
  have HV0 := hidd hv
  clear hv hE hM
  obtain ⟨iN, hiN, hN0, hN1, hN2⟩ := info_parts infoNoded
  go_enter Tryz.func4, Tryz.ntmps4
  go_wp2_with fail
  refine HD.out.mono ?_
  rintro e w2 ⟨rfl, hb2⟩
  have HB2 := hidd hb2
  have HLT := hidd (longTrees_any _ ls w2 (HV.out w2 hb2))
  clear hb2 HD
  by_cases hn1 : n < 1
  · have e1 : decide (n < 1) = true := decide_eq_true hn1
    clear hn1 HLT
    go_wp2_with fail
    go_ret
    exact ⟨rfl, HB2.out⟩
  have e1 : decide (n < 1) = false := decide_eq_false hn1
  by_cases hn60 : 60 < n
  · have e2 : decide (60 < n) = true := decide_eq_true hn60
    clear hn1 hn60 HLT
    go_wp2_with fail
    go_ret
    exact ⟨rfl, HB2.out⟩
  have e2 : decide (60 < n) = false := decide_eq_false hn60
  obtain ⟨m, rfl⟩ : ∃ m : Nat, n = (m : Int) := ⟨n.toNat, by omega⟩
  have HM60 : Hid (1 ≤ m ∧ m ≤ 60) := hidd ⟨by omega, by omega⟩
  clear hn1 hn60
  go_wp2_with fail
  refine HLT.out.mono ?_
  rintro e w3 ⟨⟨r, rfl, hr⟩, hb3⟩
  have HB3 : Hid (Below w.heap.size w w3) := hidd (HB2.out.trans (hb3.mono HB2.out.size))
  clear hb3 HLT
  cases r with
  | true =>
    clear hr
    go_wp2_with fail
    go_ret
    exact ⟨rfl, HB3.out⟩
  | false =>
  obtain ⟨hl25, hTS⟩ := hr rfl
  have HTS := hidd hTS
  have HDO := hidd (dirsOf_ok m w3 HM60.out.1 (by have := HM60.out.2; omega))
  clear hr hTS
  go_wp2_with fail
  refine HDO.out.mono ?_
  rintro e w4 ⟨L, dv, rfl, hLB, hD4, hb4⟩
  have hz3 := HB3.out.size
  have hz4 := hb4.size
  have HB4 : Hid (Below w.heap.size w w4) := hidd (HB3.out.trans (hb4.mono hz3))
  have hL : L.B ≤ w4.heap.size := by rw [hLB]; exact hz4
  have hLw : w.heap.size ≤ L.B := by rw [hLB]; exact hz3
  have hEB : B ≤ L.B := Nat.le_trans hBw hLw
  have hML : 10 < L.B := Nat.lt_of_lt_of_le hMl hLw
  have HK0 := hidd (OsK.start hD4)
  have HBL : Hid (∀ W, Below L.B w4 W → Below w.heap.size w W) := hidd (fun W h => HB4.out.trans (h.mono hLw))
  obtain ⟨s0, hs0⟩ : ∃ s, (⟨0, 0, fun _ => none, List.replicate m false, List.replicate m (zb 16), fun _ => none, 0⟩ : St) = s := ⟨_, rfl⟩
  rw [hs0] at HK0
  clear hD4 hb4 HDO hz3 hz4 hLB hs0 e1 e2
  go_wp2_with fail
  go_loopw [9] (fun iv wr => ∃ (i : Nat) (s : St), i ≤ ls.length ∧ iv = .int .i64 (i : Int) ∧ OsK w4 L i s wr) (fun iv _ => ls.length - (intOf iv).toNat)
  case atStart => exact ⟨0, s0, Nat.zero_le _, rfl, HK0.out⟩
  case round =>
    obtain ⟨i, s, hi, rfl, hK⟩ := hrel
    clear HK0
    have hBr := HBL.out wr hK.bel
    by_cases hlt : i < ls.length
    · have p1 : (0 : Int) ≤ (i : Int) := by omega
      have p2 : (i : Int) < (ls.length : Int) := by omega
      obtain ⟨b1, o1, rfl, hb1, c0, c1, c2, c3, c4, c5, c6, c7, -⟩ := sl_ta HV0.out.sl hlt
      have hts := HTS.out _ (List.getElem_mem hlt)
      have hco := HV0.out.ok _ (List.getElem_mem hlt)
      have hnum := HV0.out.num _ (List.getElem_mem hlt)
      obtain ⟨c, hc⟩ : ∃ c, ls[i] = c := ⟨_, rfl⟩
      rw [hc] at c0 c1 c2 c3 c4 c5 c6 c7 hco hnum hts
      obtain ⟨na, nc, hnv⟩ := hco.shape
      obtain ⟨kc, pc', sc, ⟨kn, dn, en, vn, ksn⟩, kk, mm, bb⟩ := c
      simp only [Tr.v, Tr.kids, Tr.kind, Tr.data, Tr.exec] at hnv c0 c1 c2 c3 c4 c5 c6 c7
      subst hnv
      have HC := hidd (fun W (hW : Below w.heap.size w W) => (⟨(hW.cell (p := ⟨b1, o1 + i * 10, none⟩) hb1).trans c0, (hW.cell (p := ⟨b1, o1 + i * 10 + 3, none⟩) hb1).trans c3, (hW.cell (p := ⟨b1, o1 + i * 10 + 4, none⟩) hb1).trans c4, (hW.cell (p := ⟨b1, o1 + i * 10 + 5, none⟩) hb1).trans c5, (hW.cell (p := ⟨b1, o1 + i * 10 + 6, none⟩) hb1).trans c6, (hW.cell (p := ⟨b1, o1 + i * 10 + 7, none⟩) hb1).trans c7⟩ :
        W.cell? ⟨b1, o1 + i * 10, none⟩ = some (.string kc) ∧ W.cell? ⟨b1, o1 + i * 10 + 3, none⟩ = some (.string kn) ∧ W.cell? ⟨b1, o1 + i * 10 + 4, none⟩ = some (.string dn) ∧ W.cell? ⟨b1, o1 + i * 10 + 5, none⟩ = some (.bool en) ∧ W.cell? ⟨b1, o1 + i * 10 + 6, none⟩ = some (.slice na ksn.length nc) ∧ W.cell? ⟨b1, o1 + i * 10 + 7, none⟩ = some (.int .i64 kk)))
      have HCO := hidd (hco.ob hBr)
      have HTSc := hidd hts
      have HNUM := hidd hnum
      obtain ⟨a0, a3, a4, a5, a6, a7⟩ := HC.out wr hBr
      clear c0 c1 c2 c3 c4 c5 c6 c7 hco hnum hts hc hb1 hBr
      cases hk1 : (kc.toList == [112, 117, 116]) with
      | true =>
        have hk2 : (kc.toList == [100, 114, 111, 112]) = false := by
          have h1 : kc.toList = [112, 117, 116] := by simpa using hk1
          rw [h1]; rfl
        have HOW := hidd (own_any 300 (Tr.mk kn dn en (.slice na ksn.length nc) ksn : Lt) wr (by have h1 : (Tr.mk kn dn en (.slice na ksn.length nc) ksn : Lt).sz ≤ 40 := HTSc.out.1; omega) (Nat.le_refl _) HCO.out)
        have HOW : Hid (Calls Tryz.prog 9 #[.agg #[.string kn, .string dn, .bool en, .slice na ksn.length nc]] wr (OwnP (Tr.mk kn dn en (.slice na ksn.length nc) ksn) wr)) := HOW
        have HK := hidd hK
        clear hK
        go_wp2_with fail
        refine HOW.out.mono ?_
        rintro e w5 ⟨ya, yc, ky, rfl, hyb, hyo, hyi, hb5⟩
        have hK5 := HK.out.later hL hb5
        have hB5 := HBL.out _ hK5.bel
        have hPA := dput_any2 E B L s _ w5 hyo (in_mono (fun b hb hd => by have h1 := HK.out.di.toDiM.ltS b hd; have h2 : wr.heap.size ≤ b := hb.1; omega) _ hyi) hK5.di (HE.out _ hB5) hEB (HM.out _ hB5) hML (Nat.le_trans hL hK5.bel.size) (by have := hK5.N; omega) (by have := hK5.nm; omega) (by have := hK5.nx; omega)
        have HPA : Hid (Calls Tryz.prog 8 #[.pointer (some ⟨L.d, 0, none⟩), .agg #[.string kn, .string dn, .bool en, .slice ya ky.length yc]] w5 (PuY L s (.mk kn dn en (.slice ya ky.length yc) ky) w5)) := hidd hPA
        have HK5 := hidd hK5
        clear hPA hyb hyo hyi hb5 hK5 hB5 HK a0 a3 a4 a5 a6 a7 HOW
        go_wp2_with fail
        refine HPA.out.mono ?_
        intro e w6 hP
        obtain ⟨vv, cv, s', rfl, hK6⟩ := HK5.out.put hL hP
        have HK6 := hidd hK6
        obtain ⟨a0, -⟩ := HC.out w6 (HBL.out _ hK6.bel)
        clear hP HPA HK5 hK6
        go_wp2_with fail
        go_roundw
        case rel => exact ⟨i + 1, s', by omega, by go_num, HK6.out⟩
        case measure => simp [intOf]; omega
      | false =>
      cases hk2 : (kc.toList == [100, 114, 111, 112]) with
      | true =>
        have HDR := hidd (hK.drop_any (E := E) (B := B) hL (HE.out _ (HBL.out _ hK.bel)) HNUM.out.1 (by omega))
        clear hK
        go_wp2_with fail
        refine HDR.out.mono ?_
        rintro e w6 ⟨⟨vv, rfl⟩, s', hK6⟩
        have HK6 := hidd hK6
        clear hK6 HDR
        go_wp2_with fail
        go_roundw
        case rel => exact ⟨i + 1, s', by omega, by go_num, HK6.out⟩
        case measure => simp [intOf]; omega
      | false =>
        have HK6 := hidd hK.next
        clear hK
        go_wp2_with fail
        go_roundw
        case rel => exact ⟨i + 1, s, by omega, by go_num, HK6.out⟩
        case measure => simp [intOf]; omega
    · obtain rfl : i = ls.length := by omega
      have hKN := hK.N
      have hKm := hK.nm
      have hKx := hK.nx
      have HTR := hidd (dtrees_new L s wr hK.di.toDiM (by omega) (by omega))
      have HSN : Hid (s.N ≤ 7500 ∧ s.nm ≤ 7500 ∧ s.nx ≤ 25 ∧ badD s.ls s.T 1000000 s.D s.nx ≤ 5000) := hidd ⟨by omega, by omega, by omega, by have := hK.bad 1000000; omega⟩
      have HLT5 := hidd hK.di.toDiM.ltS
      have HK5 := hidd hK
      have p2 : ¬ ((ls.length : Int) < (ls.length : Int)) := by omega
      clear hK hKN hKm hKx hi hBr
      obtain ⟨w5, hw5⟩ : ∃ W, wr = W := ⟨_, rfl⟩
      rw [hw5] at HTR HLT5 HK5 ⊢
      clear hw5
      go_wp2_with fail
      refine HTR.out.mono ?_
      rintro e w6 ⟨kl, ka, kcap, hkl, hkl1, rfl, hksl, hb6⟩
      have HZ6 : Hid (w5.heap.size ≤ w6.heap.size) := hidd hb6.size
      have hK6 := HK5.out.later hL hb6
      have HKL := hidd hkl
      have hklN : kl.length ≤ 25 := by
        have h1 : ∀ (l : List Nat) (a : Nat), l.Pairwise (· < ·) → (∀ k ∈ l, a ≤ k ∧ k < 25) → l.length + a ≤ 25 ∨ l = [] := fun l => by
          induction l with
          | nil => exact fun _ _ _ => .inr rfl
          | cons x r ih =>
            intro a hp hk
            left
            obtain ⟨h2, h3⟩ := List.pairwise_cons.1 hp
            have h4 := hk x (List.mem_cons_self ..)
            rcases ih (x + 1) h3 (fun k hk' => ⟨h2 k hk', (hk k (List.mem_cons_of_mem _ hk')).2⟩) with h5 | h5
            · rw [List.length_cons]; omega
            · subst h5; simp; omega
        rcases h1 kl 0 hkl.1 (fun k hk => ⟨Nat.zero_le _, by
          obtain ⟨e, he⟩ := Option.isSome_iff_exists.1 ((hkl.2 k).1 hk)
          have := hK6.di.lt he
          have := HSN.out.2.2.1
          omega⟩) with h2 | h2
        · omega
        · subst h2; simp
      have HKK := hidd (fun W (hW : Below w6.heap.size w6 W) => (⟨hK6.later hL hW, hksl.ob hW, HBL.out _ (hK6.later hL hW).bel⟩ : OsK w4 L ls.length s W ∧ Ow (fun g => w5.heap.size ≤ g) W 3 1 (.slice ka kl.length kcap) kl.length (ints kl) ∧ Below w.heap.size w W))
      have HWS : Hid (WsI w6.heap.size s.D kl [] (.slice none 0 0) w6) := hidd ⟨Ow.nil _ _ _ _, (fun c hc => by cases hc), (fun c hc => by cases hc), (fun i hi => by simp at hi)⟩
      clear hkl hksl hb6 hK6 HTR HK5
      go_wp2_with fail
      go_loopw [10, 12, 13, 14] (fun wv iv _ _ wr => ∃ (j : Nat) (Q : List Lt), j ≤ kl.length ∧ iv = .int .i64 (j : Int) ∧ Q.length = j ∧ WsI w6.heap.size s.D kl Q wv wr ∧ Below w6.heap.size w6 wr) (fun _ iv _ _ _ => kl.length - (intOf iv).toNat)
      case atStart => exact ⟨0, [], Nat.zero_le _, rfl, rfl, HWS.out, Below.refl _ _⟩
      case round =>
        obtain ⟨J, Q, hj, rfl, hQl, hQ, hbel⟩ := hrel
        subst hQl
        obtain ⟨qa, qc, rfl⟩ := hQ.rows.shape
        clear HWS
        by_cases hlj : Q.length < kl.length
        · obtain ⟨hK2, hS2, hB2w⟩ := HKK.out _ hbel
          obtain ⟨b1, o1, rfl, hb1, hc1, hr1⟩ := hS2.sl.at1 hlj
          rw [show (ints kl)[Q.length] = .int .i64 (kl[Q.length] : Int) by simp [ints]] at hr1
          obtain ⟨e0, he0⟩ := Option.isSome_iff_exists.1 ((HKL.out.2 _).1 (List.getElem_mem hlj))
          have HSR : Hid (∀ e, s.D kl[Q.length] = some e → e = e0) := hidd (fun e he => by rw [he0] at he; exact (Option.some.inj he).symm)
          obtain ⟨k, hk⟩ : ∃ k, kl[Q.length] = k := ⟨_, rfl⟩
          rw [hk] at he0 hr1
          have hkx := hK2.di.lt he0
          obtain ⟨g1, g2⟩ := got_src hK2.di he0
          have hk64 : K64 (k : Int) := ⟨by omega, by have := HSN.out.2.2.1; omega⟩
          have HG := hidd (dget_some E B L s k e0 wr hK2.di (HE.out _ hB2w) hk64 (by have := HSN.out.1; omega) he0)
          have HGG := hidd (⟨g1, g2⟩ : (∀ q ∈ e0.fl, (rdP s.ls s.T e0.F q).isSome = true) ∧ fillT (rdG s e0) ⟨#[]⟩ e0.tr.bare = e0.src)
          have HQ := hidd hQ
          have HBEL := hidd hbel
          have p1 : (0 : Int) ≤ (Q.length : Int) := by omega
          have p3 : (Q.length : Int) < (kl.length : Int) := by omega
          clear hK2 hS2 he0 g1 g2 hk hc1 hkx hQ hbel hB2w hk64
          go_wp2_with fail
          refine HG.out.mono ?_
          rintro e w7 ⟨hb7, ⟨y, he7, hyb, hyo, hyi, -⟩ | ⟨-, q', hq', hbad⟩⟩
          rotate_left
          · have := HGG.out.1 q' hq'
            rw [hbad] at this
            cases this
          have hyb' := hyb.trans HGG.out.2
          obtain ⟨ya, yc, hyv⟩ := hyo.shape
          obtain ⟨ky, dy, ey, vy, ksy⟩ := y
          simp only [Tr.v, Tr.kids] at hyv
          subst hyv
          have he8 : e = .returned (.tuple #[.agg #[.string ky, .string dy, .bool ey, .slice ya ksy.length yc], .nilIface]) := he7
          subst he8
          have hx7 := Blk.new w7 [.string ky, .string dy, .bool ey, .slice ya ksy.length yc] 32
          have hA8 : Below w7.heap.size w7 (w7.alloc (.cells #[.string ky, .string dy, .bool ey, .slice ya ksy.length yc] 32)) := (Below.refl _ _).alloc (Nat.le_refl _) _
          have hb8 : Below wr.heap.size wr (w7.alloc (.cells #[.string ky, .string dy, .bool ey, .slice ya ksy.length yc] 32)) := hb7.trans (hA8.mono hb7.size)
          have HQ8 := hidd (HQ.out.later hb8)
          have HB68 := hidd (HBEL.out.trans (hb8.mono HBEL.out.size))
          have HYO8 := hidd (hyo.ob hA8)
          have HYI := hidd (in_mono (G := fun b => w6.heap.size ≤ b ∧ (Value.slice qa Q.length qc).ownBlock ≠ some b) (fun b hb => ⟨by have := HBEL.out.size; omega, fun e => by have h1 := (HQ.out.rows.blk b e).2; omega⟩) _ hyi)
          have HYB := hidd hyb'
          clear he7 hyb hyo hyi hyb' hb7 hA8 hb8 hr1 hb1 HG HGG HQ HBEL
          go_upto_region 20 with fail
          generalize w7.alloc (.cells #[.string ky, .string dy, .bool ey, .slice ya ksy.length yc] 32) = w8 at *
          have x0 := hx7.cell (i := 0) rfl
          have x1 := hx7.cell (i := 1) rfl
          have x2 := hx7.cell (i := 2) rfl
          have x3 := hx7.cell (i := 3) rfl
          have hA9 : Below w8.heap.size w8 (w8.alloc (.cells [Value.string ky, .string dy, .bool ey, .slice ya ksy.length yc].toArray 32)) := (Below.refl _ _).alloc (Nat.le_refl _) _
          have HQ9 := hidd (HQ8.out.later hA9)
          have how1 := HQ9.out.rows.self
          have hs1 := Src.new (P := Tryz.prog) (size := 4) (tx := 29) Tryz.underlying29 w8 w8.heap.size rfl [.string ky, .string dy, .bool ey, .slice ya ksy.length yc] 32 rfl (by intro u hu; simp only [List.mem_cons, List.not_mem_nil, or_false] at hu; rcases hu with rfl | rfl | rfl | rfl <;> rfl) 1
          have HYO9 := hidd (HYO8.out.ob hA9)
          have HB69 := hidd (HB68.out.trans (hA9.mono HB68.out.size))
          have hql9 : Q.length ≤ 25 := by omega
          clear hx7 hA9 HQ8 HYO8 HB68
          go_wp2_with (at_builtin; refine wpList_append_ow _ rfl _ _ 29 29 rfl (fun g => (w8.alloc (.cells [Value.string ky, .string dy, .bool ey, .slice ya ksy.length yc].toArray 32)).heap.size ≤ g ∨ (Value.slice qa Q.length qc).ownBlock = some g) ?cF 32 iN _ 4 64 Tryz.underlying29 hiN hN0 hN1 hN2 rfl (by decide) _ _ _ rfl (how1.mono (fun g hg => .inr hg)) _ _ _ rfl hs1 ?c3 ?c4 ?_)
          case cF => intro g hg; exact .inl hg
          case c3 => unfold maxLen; omega
          case c4 => omega
          intro v7 w9 how9 hg9
          obtain ⟨v7a, v7c, hv7⟩ := how9.shape
          have HQ10 := hidd (HQ9.out.app HYO9.out HYI.out HB69.out.size ((Fr.refl _ _).grown hg9 (fun g hg => .inl hg)) (fun g hg => hg) (how9.mono (fun g hg => by
            rcases hg with h | h
            · exact .inl (by simpa using h)
            · exact .inr h)) (fun h' e he => by
            have h1 : s.D kl[Q.length] = some e := he
            rw [HSR.out e h1]
            exact HYB.out))
          have HB10 := hidd (HB69.out.trans (((Fr.refl (fun b => (Value.slice qa Q.length qc).ownBlock = some b) _).grown hg9 (fun g hg => .inl hg)).below HB69.out.size (fun b hb => (HQ9.out.rows.blk b hb).1)))
          clear how9 hg9 how1 hs1 HQ9 x0 x1 x2 x3
          subst hv7
          go_wp2_with fail
          go_roundw
          case rel => exact ⟨Q.length + 1, Q ++ [_], by omega, by go_num, by simp, HQ10.out, HB10.out⟩
          case measure => simp [intOf]; omega
        · have hQk : Q.length = kl.length := by omega
          obtain ⟨hK2, hS2, hB2w⟩ := HKK.out _ hbel
          have hLr : L.B ≤ wr.heap.size := Nat.le_trans hL hK2.bel.size
          have hzr : w6.heap.size ≤ wr.heap.size := hbel.size
          have HFR := hidd (ifree_any L.t L.p L.ps L.rs L.m s.us wr hK2.di.tb.tab hK2.di.tb.sp)
          have HTB := hidd (dtable_any L s wr hK2.di.toDiM)
          have HSV := hidd (fun W (hW : Below wr.heap.size wr W) => saved_any L s 1000000 W (hK2.di.low hW).toDiM (by have := HSN.out.1; omega) (by have := HSN.out.1; omega))
          have HAL := hidd (fun W (hW : Below wr.heap.size wr W) => all_opt E B L s 1000000 5000 W (hK2.di.low hW) (HE.out _ (hB2w.trans (hW.mono hB2w.size))) hEB (HM.out _ (hB2w.trans (hW.mono hB2w.size))) hML (Nat.le_trans hLr hW.size) HSN.out.2.2.2 (by have := HSN.out.1; omega) (by have := HSN.out.1; omega) (by have := HSN.out.2.1; omega) (by have := HSN.out.2.2.1; omega))
          have HR := hidd (fun W (hW : Below wr.heap.size wr W) => (⟨hK2.di.low hW, hS2.ob hW, hQ.later hW, hB2w.trans (hW.mono hB2w.size), Nat.le_trans hLr hW.size⟩ : DiAt True W L s ∧ Ow (fun g => w5.heap.size ≤ g) W 3 1 (.slice ka kl.length kcap) kl.length (ints kl) ∧ WsI w6.heap.size s.D kl Q (.slice qa Q.length qc) W ∧ Below w.heap.size w W ∧ L.B ≤ W.heap.size))
          have p2 : ¬ ((Q.length : Int) < (kl.length : Int)) := by omega
          clear hK2 hS2 hB2w hQ hbel hLr hj
          go_wp2_with fail
          refine HTB.out.mono ?_
          rintro e wx ⟨rfl, rfl⟩
          go_wp2_with fail
          refine HFR.out.mono ?_
          rintro e w8 ⟨rfl, hb8⟩
          have HB8 := hidd hb8
          have HSV8 := hidd (HSV.out w8 hb8)
          clear hb8 HSV HTB HFR
          go_wp2_with fail
          refine HSV8.out.mono ?_
          rintro e w9 ⟨rfl, hb9⟩
          have hb9' := HB8.out.trans (hb9.mono HB8.out.size)
          have HR9 := hidd (HR.out w9 hb9')
          have HAL9 := hidd (HAL.out w9 hb9')
          clear hb9 hb9' HSV8 HB8 HR HAL
          go_wp2_with fail
          refine HAL9.out.mono ?_
          rintro e w10 ⟨c, s', rfl, hO, hgood⟩
          obtain ⟨hD9, hS9, hQ9, hB9, hL9⟩ := HR9.out
          have hB10 : Below w.heap.size w w10 := hB9.trans ((hO.fr.below hL9 hD9.toDiM.baseS).mono hLw)
          have hlt9 : ∀ b, diS L s b → b < w5.heap.size := HLT5.out
          have hS10 := hS9.fr hO.fr (fun g hg hd => by have h1 := (hS9.blk g hg).1; have h2 := hlt9 g hd; omega)
          have hQ10 := hQ9.fr hO.fr (fun b hb => by have h1 := hlt9 b hb; have h2 := HZ6.out; omega)
          have hsN' : s'.N ≤ 30000 := by have h1 := hO.N; have h2 := hO.bad; have h3 := HSN.out; omega
          have hsv := hO.saved hD9.toDiM (by have := HSN.out.1; omega) (by omega)
          have hsnm : s'.nm ≤ 7500 := by rw [hO.nm]; exact HSN.out.2.1
          have hsnx : s'.nx ≤ 25 := by rw [hO.nx]; exact HSN.out.2.2.1
          have HDM := hidd (fun k e (he : s.D k = some e) => (show ∃ f, s'.D k = some f ∧ f.src = e.src from by
            have h1 := hO.dom k
            rw [he] at h1
            obtain ⟨f, hf⟩ := Option.isSome_iff_exists.1 h1
            obtain ⟨g, h2, h3, -⟩ := hO.src k f hf
            rw [he] at h2
            cases h2
            exact ⟨f, hf, h3⟩))
          have HST := hidd (step_any E B L s' 1000000 w10 hO.di (HE.out _ hB10) (HM.out _ hB10) (by omega) (by omega) (by omega) (by omega))
          have HGD := hidd hgood
          have HX := hidd (fun W (hW : Below w10.heap.size w10 W) => (⟨hO.di.low hW, hS10.ob hW, hQ10.later hW, hB10.trans (hW.mono hB10.size)⟩ : DiAt True W L s' ∧ Ow (fun g => w5.heap.size ≤ g) W 3 1 (.slice ka kl.length kcap) kl.length (ints kl) ∧ WsI w6.heap.size s.D kl Q (.slice qa Q.length qc) W ∧ Below w.heap.size w W))
          obtain ⟨sv, hsv0⟩ : ∃ a : Int, ((savT s.T 1000000 : Nat) : Int) = a := ⟨_, rfl⟩
          obtain ⟨fr, hfr0⟩ : ∃ a : Int, ((nfree s.us : Nat) : Int) = a := ⟨_, rfl⟩
          rw [hsv0, hfr0]
          have HEQ : Hid (((savT s'.T 1000000 : Nat) : Int) - sv = ((nfree s'.us : Nat) : Int) - fr) := hidd (by omega)
          clear hO hgood hD9 hS9 hQ9 hB9 hL9 hB10 hlt9 hS10 hQ10 hsv hsv0 hfr0 HR9 HAL9
          go_wp2_with fail
          refine HST.out.mono ?_
          rintro e w11 (⟨rfl, hb11, -⟩ | ⟨-, -, k, e', q, was, tg, c', xn, xw, h1, h2, h3, -, -, h6, h7, h8, -, -⟩)
          rotate_left
          · have h9 := HGD.out k e' q was h1 h3 h2
            rw [badN_true.2 ⟨c', tg, h6, h7, h8⟩] at h9
            cases h9
          have HY := hidd (fun W (hW : Below w11.heap.size w11 W) => HX.out W (hb11.trans (hW.mono hb11.size)))
          clear hb11 HST HX
          go_wp2_with fail
          go_loopw [21, 22, 23] (fun iv _ _ wr => ∃ j : Nat, j ≤ kl.length ∧ iv = .int .i64 (j : Int) ∧ Below w11.heap.size w11 wr) (fun iv _ _ _ => kl.length - (intOf iv).toNat)
          case atStart => exact ⟨0, Nat.zero_le _, rfl, Below.refl _ _⟩
          case round =>
            obtain ⟨j, hj, rfl, hbel⟩ := hrel
            obtain ⟨hDi, hKl, hWs, hBw'⟩ := HY.out _ hbel
            by_cases hlj : j < kl.length
            · obtain ⟨b1, o1, rfl, hb1, hc1, hr1⟩ := hKl.sl.at1 hlj
              rw [show (ints kl)[j] = .int .i64 (kl[j] : Int) by simp [ints]] at hr1
              obtain ⟨e0, he0⟩ := Option.isSome_iff_exists.1 ((HKL.out.2 _).1 (List.getElem_mem hlj))
              have hlQ : j < Q.length := by omega
              have hqs := hWs.src j hlQ hlj e0 he0
              obtain ⟨f0, hf0, hfs⟩ := HDM.out _ e0 he0
              obtain ⟨k, hk⟩ : ∃ k, kl[j] = k := ⟨_, rfl⟩
              rw [hk] at hf0 hr1
              have hkx := hDi.lt hf0
              obtain ⟨g1, g2⟩ := got_src hDi hf0
              have hk64 : K64 (k : Int) := ⟨by omega, by omega⟩
              have HG := hidd (dget_some E B L s' k f0 wr hDi (HE.out _ hBw') hk64 (by omega) hf0)
              have HGG := hidd (⟨g1, g2.trans (hfs.trans hqs.symm)⟩ : (∀ q ∈ f0.fl, (rdP s'.ls s'.T f0.F q).isSome = true) ∧ fillT (rdG s' f0) ⟨#[]⟩ f0.tr.bare = Q[j].bare)
              obtain ⟨b2, o2, hpa, hb2, d0, d1, d2, d3⟩ := sl_nd hWs.rows.sl hlQ
              have hpo := hWs.ok _ (List.getElem_mem hlQ)
              subst hpa
              obtain ⟨c0, hc0⟩ : ∃ c, Q[j] = c := ⟨_, rfl⟩
              rw [hc0] at d0 d1 d2 d3 hpo HGG
              obtain ⟨na, nc, hnv⟩ := hpo.shape
              obtain ⟨kn, dn, en, vn, ksn⟩ := c0
              simp only [Tr.v, Tr.kids, Tr.kind, Tr.data, Tr.exec] at hnv d0 d1 d2 d3
              subst hnv
              have HBEL := hidd hbel
              have HPO := hidd hpo
              have HD := hidd (⟨d0, d1, d2, d3, hb2⟩ : wr.cell? ⟨b2, o2 + j * 4, none⟩ = some (.string kn) ∧ wr.cell? ⟨b2, o2 + j * 4 + 1, none⟩ = some (.string dn) ∧ wr.cell? ⟨b2, o2 + j * 4 + 2, none⟩ = some (.bool en) ∧ wr.cell? ⟨b2, o2 + j * 4 + 3, none⟩ = some (.slice na ksn.length nc) ∧ b2 < wr.heap.size)
              have p1 : (0 : Int) ≤ (j : Int) := by omega
              have p3 : (j : Int) < (kl.length : Int) := by omega
              have p4 : (j : Int) < (Q.length : Int) := by omega
              clear hDi hKl hWs hBw' hc1 he0 hqs hf0 hfs hk hkx g1 g2 hk64 hpo hc0 hbel d0 d1 d2 d3 hb2
              go_wp2_with fail
              refine HG.out.mono ?_
              rintro e w7 ⟨hb7, ⟨y, he7, hyb, hyo, -, -⟩ | ⟨-, q', hq', hbad⟩⟩
              rotate_left
              · have := HGG.out.1 q' hq'
                rw [hbad] at this
                cases this
              have hyb' := hyb.trans HGG.out.2
              obtain ⟨ya, yc, hyv⟩ := hyo.shape
              obtain ⟨ky, dy, ey, vy, ksy⟩ := y
              simp only [Tr.v, Tr.kids] at hyv
              subst hyv
              have he8 : e = .returned (.tuple #[.agg #[.string ky, .string dy, .bool ey, .slice ya ksy.length yc], .nilIface]) := he7
              subst he8
              have hx7 := Blk.new w7 [.string ky, .string dy, .bool ey, .slice ya ksy.length yc] 32
              have hA8 : Below w7.heap.size w7 (w7.alloc (.cells #[.string ky, .string dy, .bool ey, .slice ya ksy.length yc] 32)) := (Below.refl _ _).alloc (Nat.le_refl _) _
              have hb8 : Below wr.heap.size wr (w7.alloc (.cells #[.string ky, .string dy, .bool ey, .slice ya ksy.length yc] 32)) := hb7.trans (hA8.mono hb7.size)
              have HYO8 := hidd (hyo.ob hA8)
              have HB8 := hidd hb8
              have HYB := hidd hyb'
              clear he7 hyb hyo hyb' hb7 hA8 hb8 hr1 hb1 HG HGG
              go_upto_region 33 with fail
              generalize w7.alloc (.cells #[.string ky, .string dy, .bool ey, .slice ya ksy.length yc] 32) = w8 at *
              have HC : Hid (∀ W, Below w8.heap.size w8 W → W.cell? ⟨w7.heap.size, 0, none⟩ = some (.string ky) ∧ W.cell? ⟨w7.heap.size, 1, none⟩ = some (.string dy) ∧ W.cell? ⟨w7.heap.size, 2, none⟩ = some (.bool ey) ∧ W.cell? ⟨w7.heap.size, 3, none⟩ = some (.slice ya ksy.length yc) ∧
                  W.cell? ⟨b2, o2 + j * 4, none⟩ = some (.string kn) ∧ W.cell? ⟨b2, o2 + j * 4 + 1, none⟩ = some (.string dn) ∧ W.cell? ⟨b2, o2 + j * 4 + 2, none⟩ = some (.bool en) ∧ W.cell? ⟨b2, o2 + j * 4 + 3, none⟩ = some (.slice na ksn.length nc) ∧ Below w8.heap.size w8 W) := hidd (fun W hW => by
                have hb := hx7.below hW hx7.lt
                have h8 := HB8.out.trans (hW.mono HB8.out.size)
                obtain ⟨d0, d1, d2, d3, hb2⟩ := HD.out
                exact ⟨hb.cell (i := 0) rfl, hb.cell (i := 1) rfl, hb.cell (i := 2) rfl, hb.cell (i := 3) rfl, (h8.cell (p := ⟨b2, o2 + j * 4, none⟩) hb2).trans d0, (h8.cell (p := ⟨b2, o2 + j * 4 + 1, none⟩) hb2).trans d1, (h8.cell (p := ⟨b2, o2 + j * 4 + 2, none⟩) hb2).trans d2, (h8.cell (p := ⟨b2, o2 + j * 4 + 3, none⟩) hb2).trans d3, hW⟩)
              have HSM : Hid (∀ W, Below w8.heap.size w8 W → Calls Tryz.prog 15 #[.agg #[.string ky, .string dy, .bool ey, .slice ya ksy.length yc], .agg #[.string kn, .string dn, .bool en, .slice na ksn.length nc]] W fun e W' => e = .returned (.bool true) ∧ Below W.heap.size W W') := hidd (fun W hW => same_any (.mk ky dy ey (.slice ya ksy.length yc) ksy) (.mk kn dn en (.slice na ksn.length nc) ksn) W true (HYO8.out.ob hW) ((HPO.out.ob HB8.out).ob hW) ⟨fun _ => HYB.out, fun _ => rfl⟩)
              have hB8 : Below w8.heap.size w8 w8 := Below.refl _ _
              have HBF := hidd (HBEL.out.trans (HB8.out.mono HBEL.out.size))
              clear hx7 HYO8 HB8 HYB HPO HD HBEL
              go_region_held3 (fun W => W.cell? ⟨w7.heap.size, 0, none⟩ = some (.string ky) ∧ W.cell? ⟨w7.heap.size, 1, none⟩ = some (.string dy) ∧ W.cell? ⟨w7.heap.size, 2, none⟩ = some (.bool ey) ∧ W.cell? ⟨w7.heap.size, 3, none⟩ = some (.slice ya ksy.length yc) ∧
                  W.cell? ⟨b2, o2 + j * 4, none⟩ = some (.string kn) ∧ W.cell? ⟨b2, o2 + j * 4 + 1, none⟩ = some (.string dn) ∧ W.cell? ⟨b2, o2 + j * 4 + 2, none⟩ = some (.bool en) ∧ W.cell? ⟨b2, o2 + j * 4 + 3, none⟩ = some (.slice na ksn.length nc) ∧ Below w8.heap.size w8 W)
                (first | exact HC.out _ hB8.drew | exact HC.out _ (hB8.drew.trans (hb9.mono hB8.size)))
                (first | (go_at_call 15; refine (HSM.out _ hB8.drew).mono ?_; rintro e w9 ⟨rfl, hb9⟩))
              have HB9 := hidd (HBF.out.trans ((hB8.drew.trans (hb9.mono (hB8.drew).size)).mono HBF.out.size))
              clear hb9 hB8 HC HSM HBF
              go_wp2_with fail
              go_roundw
              case rel => exact ⟨j + 1, by omega, by go_num, HB9.out⟩
              case measure => simp [intOf]; omega
            · obtain rfl : j = kl.length := by omega
              have HTB := hidd (dtable_any L s' wr hDi.toDiM)
              have HAA := hidd (all_any L.B L.t L.p L.r L.ps L.rs L.m s'.N s'.T s'.us s'.ls wr hDi.tb (by omega))
              have HAP := hidd (fun i j x y (hij : i < j) (hx : s'.T i = some x) (hy : s'.T j = some y) (hd : y.data = x.data) (hex : y.exec = x.exec) => (show False from by
                have key : ∀ m z, s'.T m = some z → kyI s'.ls s'.T m = some (z.data, z.exec) := fun m z hz => by
                  unfold kyI
                  rw [hz, Option.bind_some, rdI_pc hDi.toDiM trivial hz]
                  rfl
                have k1 := key i x hx
                have k2 := key j y hy
                rw [hd, hex] at k2
                exact apart_end hDi (K := 1000000) (by omega) HGD.out hij k1 k2))
              have HZ := hidd (fun W (hW : Below wr.heap.size wr W) => (⟨hDi.low hW, hBw'.trans (hW.mono hBw'.size)⟩ : DiAt True W L s' ∧ Below w.heap.size w W))
              have p3 : ¬ ((kl.length : Int) < (kl.length : Int)) := by omega
              clear hDi hKl hWs hBw' hbel hj HDM HGD HY
              go_wp2_with fail
              refine HTB.out.mono ?_
              rintro e wx ⟨rfl, rfl⟩
              go_wp2_with fail
              refine HAA.out.mono ?_
              rintro e w12 ⟨al, aa, ac, hal, hal1, rfl, hasl, hb12⟩
              have HA := hidd hal
              have HZ12 := hidd (fun W (hW : Below w12.heap.size w12 W) => (⟨hasl.ob hW (Nat.le_refl _), HZ.out W (hb12.trans (hW.mono hb12.size))⟩ : Sl W (.slice aa al.length ac) (ints al) al.length 1 ∧ DiAt True W L s' ∧ Below w.heap.size w W))
              clear hal hasl hb12 HAA HZ HTB
              go_wp2_with fail
              go_loopw [26, 27, 28, 29, 30, 31, 32, 33, 34, 35] (fun iv _ _ _ _ _ _ _ _ _ wr => ∃ i : Nat, i ≤ al.length ∧ iv = .int .i64 (i : Int) ∧ Below w12.heap.size w12 wr) (fun iv _ _ _ _ _ _ _ _ _ _ => al.length - (intOf iv).toNat)
              case atStart => exact ⟨0, Nat.zero_le _, rfl, Below.refl _ _⟩
              case round =>
                obtain ⟨i, hi, rfl, hbel⟩ := hrel
                by_cases hil : i < al.length
                · have p4 : (0 : Int) ≤ (i : Int) := by omega
                  have p5 : (i : Int) < (al.length : Int) := by omega
                  have HBEL := hidd hbel
                  clear hbel
                  go_wp2_with fail
                  go_loopw [27, 28, 29, 30, 31, 32, 33, 34, 35] (fun kv _ _ _ _ _ _ _ _ wr => ∃ k : Nat, k ≤ i ∧ kv = .int .i64 (k : Int) ∧ Below w12.heap.size w12 wr) (fun kv _ _ _ _ _ _ _ _ _ => i - (intOf kv).toNat)
                  case atStart => exact ⟨0, Nat.zero_le _, rfl, HBEL.out⟩
                  case round =>
                    obtain ⟨k, hk, rfl, hbel⟩ := hrel
                    clear HBEL
                    by_cases hki : k < i
                    · obtain ⟨hAl, hDi, hBw'⟩ := HZ12.out _ hbel
                      obtain ⟨b1, o1, haa, hb1, hc1, hr1⟩ := hAl.at1 hil
                      obtain ⟨b2, o2, haa2, hb2, hc2, hr2⟩ := hAl.at1 (show k < al.length by omega)
                      rw [haa] at haa2
                      simp only [Option.some.injEq, Addr.mk.injEq, and_true] at haa2
                      obtain ⟨rfl, rfl⟩ := haa2
                      subst haa
                      rw [show (ints al)[i] = .int .i64 (al[i] : Int) by simp [ints]] at hr1
                      rw [show (ints al)[k] = .int .i64 (al[k]'(by omega) : Int) by simp [ints]] at hr2
                      obtain ⟨x, hx⟩ := Option.isSome_iff_exists.1 ((HA.out.2 _).1 (List.getElem_mem hil))
                      obtain ⟨y, hy⟩ := Option.isSome_iff_exists.1 ((HA.out.2 _).1 (List.getElem_mem (show k < al.length by omega)))
                      have hlt : (al[k]'(by omega)) < al[i] := List.pairwise_iff_getElem.1 HA.out.1 k i (by omega) hil hki
                      obtain ⟨m1, hm1⟩ : ∃ a, al[i] = a := ⟨_, rfl⟩
                      obtain ⟨m2, hm2⟩ : ∃ a, (al[k]'(by omega)) = a := ⟨_, rfl⟩
                      rw [hm1] at hr1 hx hlt
                      rw [hm2] at hr2 hy hlt
                      have HNE := hidd (HAP.out m2 m1 y x hlt hy hx)
                      have hm1N := hDi.klt hx
                      have hm2N := hDi.klt hy
                      have HRX := hidd (fun W (hW : Below wr.heap.size wr W) => (dread_any E B L s' m1 x W (hDi.low hW).toDiM ((HE.out _ hBw').ob hW) (by omega) hx).mono (fun e w' h => (show e = .returned (.tuple #[.string x.data, .nilIface]) ∧ Below W.heap.size W w' from ⟨by rw [h.1, rdI_pc hDi.toDiM trivial hx]; rfl, h.2⟩)))
                      have HRY := hidd (fun W (hW : Below wr.heap.size wr W) => (dread_any E B L s' m2 y W (hDi.low hW).toDiM ((HE.out _ hBw').ob hW) (by omega) hy).mono (fun e w' h => (show e = .returned (.tuple #[.string y.data, .nilIface]) ∧ Below W.heap.size W w' from ⟨by rw [h.1, rdI_pc hDi.toDiM trivial hy]; rfl, h.2⟩)))
                      have HSX := hidd (fun W (hW : Below wr.heap.size wr W) => stat_ok L.B L.t L.p L.r L.ps L.rs L.m s'.N s'.T s'.us s'.ls m1 x W (hDi.low hW).tb (by omega) hx)
                      have HSY := hidd (fun W (hW : Below wr.heap.size wr W) => stat_ok L.B L.t L.p L.r L.ps L.rs L.m s'.N s'.T s'.us s'.ls m2 y W (hDi.low hW).tb (by omega) hy)
                      have HCC := hidd (fun W (hW : Below wr.heap.size wr W) => (⟨(hW.cell (p := ⟨b1, o1 + i, none⟩) hb1).trans hr1, (hW.cell (p := ⟨b1, o1 + k, none⟩) hb1).trans hr2⟩ : W.cell? ⟨b1, o1 + i, none⟩ = some (.int .i64 (m1 : Int)) ∧ W.cell? ⟨b1, o1 + k, none⟩ = some (.int .i64 (m2 : Int))))
                      have HBEL := hidd hbel
                      have q1 : (0 : Int) ≤ (k : Int) := by omega
                      have q2 : (k : Int) < (i : Int) := by omega
                      have q3 : (k : Int) < (al.length : Int) := by omega
                      obtain ⟨xe, hxe⟩ : ∃ b, x.exec = b := ⟨_, rfl⟩
                      obtain ⟨ye, hye⟩ : ∃ b, y.exec = b := ⟨_, rfl⟩
                      obtain ⟨xs, hxs⟩ : ∃ b, x.data = b := ⟨_, rfl⟩
                      obtain ⟨ys, hys⟩ : ∃ b, y.data = b := ⟨_, rfl⟩
                      rw [hxs] at HRX HNE
                      rw [hys] at HRY HNE
                      rw [hxe, hye] at HNE
                      clear hAl hDi hBw' hc1 hc2 hx hy hlt hm1 hm2 hbel hb2
                      go_wp2_with fail
                      refine (HRX.out wr (Below.refl _ _)).mono ?_
                      rintro e v1 ⟨rfl, hv1⟩
                      have HV1 := hidd hv1
                      obtain ⟨-, a2⟩ := HCC.out v1 hv1
                      clear hv1 hr1 hr2 HRX
                      go_wp2_with fail
                      refine (HRY.out v1 HV1.out).mono ?_
                      rintro e v2 ⟨rfl, hv2⟩
                      have hv2' := HV1.out.trans (hv2.mono HV1.out.size)
                      have HV2 := hidd hv2'
                      obtain ⟨a1, -⟩ := HCC.out v2 hv2'
                      clear hv2 hv2' a2 HRY HV1
                      go_wp2_with fail
                      refine (HSX.out v2 HV2.out).mono ?_
                      rintro e v3 ⟨sa, sc, rfl, -, hv3⟩
                      obtain ⟨xd, hxd⟩ : ∃ v : Int, ((x.data.size : Nat) : Int) = v := ⟨_, rfl⟩
                      obtain ⟨xc, hxc⟩ : ∃ v : Int, ((crc x.data.data.toList : Nat) : Int) = v := ⟨_, rfl⟩
                      obtain ⟨xb, hxb⟩ : ∃ v : Nat, x.bl.length = v := ⟨_, rfl⟩
                      obtain ⟨xl, hxl⟩ : ∃ v : Nat, x.links = v := ⟨_, rfl⟩
                      rw [hxd, hxc, hxb, hxl, hxe]
                      have hx4 := Blk.new v3 [.int .i64 xd, .int .i64 (xl : Int), .bool xe, .slice sa xb sc, .int .u32 xc] 54
                      have hv3' := HV2.out.trans (hv3.mono HV2.out.size)
                      have hv4 : Below wr.heap.size wr (v3.alloc (.cells #[.int .i64 xd, .int .i64 (xl : Int), .bool xe, .slice sa xb sc, .int .u32 xc] 54)) := hv3'.alloc hv3'.size _
                      have HV4 := hidd hv4
                      obtain ⟨-, a2⟩ := HCC.out _ hv4
                      clear hv3 hv3' hv4 a1 HSX HV2 hxd hxc hxb hxl
                      go_upto_region 46 with fail
                      generalize v3.alloc (.cells #[.int .i64 xd, .int .i64 (xl : Int), .bool xe, .slice sa xb sc, .int .u32 xc] 54) = v4 at *
                      go_wp2_with fail
                      refine (HSY.out v4 HV4.out).mono ?_
                      rintro e v5 ⟨ta, tc, rfl, -, hv5⟩
                      obtain ⟨yd, hyd⟩ : ∃ v : Int, ((y.data.size : Nat) : Int) = v := ⟨_, rfl⟩
                      obtain ⟨yc, hyc⟩ : ∃ v : Int, ((crc y.data.data.toList : Nat) : Int) = v := ⟨_, rfl⟩
                      obtain ⟨yb, hyb⟩ : ∃ v : Nat, y.bl.length = v := ⟨_, rfl⟩
                      obtain ⟨yl, hyl⟩ : ∃ v : Nat, y.links = v := ⟨_, rfl⟩
                      rw [hyd, hyc, hyb, hyl, hye]
                      have hy6 := Blk.new v5 [.int .i64 yd, .int .i64 (yl : Int), .bool ye, .slice ta yb tc, .int .u32 yc] 54
                      have hv6 : Below v4.heap.size v4 (v5.alloc (.cells #[.int .i64 yd, .int .i64 (yl : Int), .bool ye, .slice ta yb tc, .int .u32 yc] 54)) := hv5.alloc hv5.size _
                      have hx6 := hx4.below hv6 hx4.lt
                      have HV6 := hidd (HBEL.out.trans ((HV4.out.trans (hv6.mono HV4.out.size)).mono HBEL.out.size))
                      clear hv5 hv6 hx4 a2 HSY HV4 hyd hyc hyb hyl
                      go_upto_region 47 with fail
                      generalize v5.alloc (.cells #[.int .i64 yd, .int .i64 (yl : Int), .bool ye, .slice ta yb tc, .int .u32 yc] 54) = v6 at *
                      have x2 := hx6.cell (i := 2) rfl
                      have y2 := hy6.cell (i := 2) rfl
                      clear hx6 hy6
                      cases hst : (xs.toList == ys.toList) with
                      | true =>
                        have hxy : xs = ys := by
                          have h1 : xs.toList = ys.toList := by simpa using hst
                          rw [Lib.toList_data, Lib.toList_data] at h1
                          exact toList_inj h1
                        have he : (xe == ye) = false := by
                          cases h2 : (xe == ye) with
                          | false => rfl
                          | true => exact (HNE.out hxy (by simpa using h2)).elim
                        clear hxy hxs hys
                        go_wp2_with fail
                        go_roundw
                        case rel => exact ⟨k + 1, by omega, by go_num, HV6.out⟩
                        case measure => simp [intOf]; omega
                      | false =>
                        clear hxs hys
                        go_wp2_with fail
                        go_roundw
                        case rel => exact ⟨k + 1, by omega, by go_num, HV6.out⟩
                        case measure => simp [intOf]; omega
                    · obtain rfl : k = i := by omega
                      have HBEL := hidd hbel
                      have q2 : ¬ ((k : Int) < (k : Int)) := by omega
                      clear hbel
                      go_wp2_with fail
                      go_roundw
                      case rel => exact ⟨k + 1, by omega, by go_num, HBEL.out⟩
                      case measure => simp [intOf]; omega
                · obtain rfl : i = al.length := by omega
                  obtain ⟨-, hDi, hBw'⟩ := HZ12.out _ hbel
                  have HSV := hidd (saved_any L s' 1000000 wr hDi.toDiM (by omega) (by omega))
                  have HFR := hidd (fun W (hW : Below wr.heap.size wr W) => ifree_any L.t L.p L.ps L.rs L.m s'.us W (hDi.low hW).tb.tab (hDi.low hW).tb.sp)
                  have HBW := hidd hBw'
                  obtain ⟨sv', hsv'⟩ : ∃ a : Int, ((savT s'.T 1000000 : Nat) : Int) = a := ⟨_, rfl⟩
                  obtain ⟨fr', hfr'⟩ : ∃ a : Int, ((nfree s'.us : Nat) : Int) = a := ⟨_, rfl⟩
                  rw [hsv'] at HSV HEQ
                  rw [hfr'] at HFR HEQ
                  obtain ⟨D, hD1⟩ : ∃ D, IntKind.i64.wrap (sv' - sv) = D := ⟨_, rfl⟩
                  have hD2 : IntKind.i64.wrap (fr' - fr) = D := by rw [← HEQ.out]; exact hD1
                  have p5 : ¬ ((al.length : Int) < (al.length : Int)) := by omega
                  clear hDi hBw' hbel hsv' hfr' HEQ
                  go_wp2_with fail
                  refine HSV.out.mono ?_
                  rintro e v1 ⟨rfl, hv1⟩
                  have HV1 := hidd hv1
                  clear hv1 HSV
                  go_wp2_with fail
                  refine (HFR.out v1 HV1.out).mono ?_
                  rintro e v2 ⟨rfl, hv2⟩
                  have HV2 := hidd (HBW.out.trans ((HV1.out.trans (hv2.mono HV1.out.size)).mono HBW.out.size))
                  clear hv2 HFR
                  go_wp2_with fail
                  go_ret
                  exact ⟨rfl, HV2.out⟩
end Go.Proofs.YtoemahhpheobkaaGreatDoor
