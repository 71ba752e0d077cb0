/- The contract of refs.Users. Condition: the packs are there, the variables read as listed. -/
import Derived.Test.YtlcabkhalockpaaGreatDoorQb
namespace Go.Proofs.YtlcabkhalockpaaGreatDoor
open Go.RowKit Go.Maps

theorem sl1 (W : World) (n : ByteArray) : Sl (W.alloc (.cells #[.string n] 9)) (.slice (some ⟨W.heap.size, 0, none⟩) 1 1) (tcells [n]) [n].length 1 :=
  ⟨_, _, rfl, rfl, Nat.le_refl _, by unfold maxLen; omega, .inr ⟨W.heap.size, 0, rfl, by simp, fun j hj => by
    have hj0 : j = 0 := by simp [tcells] at hj; omega
    subst hj0
    exact (Blk.new W [.string n] 9).cell (i := 0) rfl⟩⟩
def usB (n : ByteArray) (p : Pn) : Bool := !decide (p.1 = n) && inB n p.2
theorem users_succ (L : List Pv) (n : ByteArray) {k : Nat} (h : k < L.length) : usersOf (pnL (L.take (k + 1))) n = usersOf (pnL (L.take k)) n ++ (if usB n L[k].pn = true then [L[k].name] else []) := by
  rw [List.take_succ_eq_append_getElem h]
  unfold usersOf pnL
  rw [List.map_append, List.filter_append, List.map_append]
  congr 1
  simp only [List.map_cons, List.map_nil, List.filter_cons, List.filter_nil]
  show List.map _ (if usB n L[k].pn = true then _ else _) = _
  split <;> rfl
theorem users_succ2 (L : List Pv) (n : ByteArray) {k : Nat} (h : k < L.length) {q : Bool} (hq : usB n L[k].pn = q) : usersOf (pnL (L.take (k + 1))) n = usersOf (pnL (L.take k)) n ++ (if q = true then [L[k].name] else []) := by subst hq; exact users_succ L n h
theorem users_le (L : List Pv) (n : ByteArray) : (usersOf (pnL L) n).length ≤ L.length := by
  unfold usersOf pnL
  rw [List.length_map]
  exact Nat.le_trans (List.length_filter_le _ _) (by simp)
def UsP (E : Nat → Addr) (L : List Pv) (n : ByteArray) (w : World) (e : Ending) (w' : World) : Prop :=
  ∃ (c : List ByteArray) (a : Option Addr) (k : Nat) (ev : Value), e = .returned (.tuple #[.slice a c.length k, ev]) ∧ FaV E ev (closE L [n]).1 (closE L [n]).2 w' ∧ TxI c (.slice a c.length k) w' ∧ Below w.heap.size w w' ∧
    ((closE L [n]).1 = 0 → Good (pnL L) ∧ n ∈ nmL L ∧ Up c ∧ ∀ s, s ∈ c ↔ s ∈ usersOf (pnL L) n) ∧ ((closE L [n]).1 ≠ 0 → c = [])

set_option maxRecDepth 100000 in
set_option maxHeartbeats 40000000 in
theorem users_any (E : Nat → Addr) (B : Nat) (L : List Pv) (n : ByteArray) (v : Value) (w : World) (h : PkI L v w) (hE : Env codeGs B w E) (hnz : Sz n) :
    Calls Tryz.prog 16 #[v, .string n] w (UsP E L n w) := by
  obtain ⟨a, cap, rfl⟩ := h.shape
  have HC1 := hidd (rCheck_any E B L _ w h hE)
  obtain ⟨R, hR⟩ : ∃ R, packsE (pnL L) = R := ⟨_, rfl⟩
  rw [hR] at HC1
  by_cases hc : R.1 = 0
  rotate_left
  · have HCE : Hid (closE L [n] = R) := hidd (by unfold closE; rw [hR, if_neg hc])
    clear h hE hR
    go_enter Tryz.func16, Tryz.ntmps16
    go_wp2_with fail
    refine HC1.out.mono ?_
    rintro e w1 ⟨ev, rfl, hf, hb⟩
    obtain ⟨T, ad, rfl⟩ := hf.iface hc
    have HF := hidd hf
    clear hf HC1
    go_wp2_with fail
    go_ret2
    exact ⟨[], none, 0, _, rfl, by rw [HCE.out]; exact HF.out, txi_nil _, hb, fun h => absurd (by rw [HCE.out] at h; exact h) hc, fun _ => rfl⟩
  have hg : Good (pnL L) := good_of (by rw [hR]; exact hc)
  have hL40 : L.length ≤ 40 := by have := hg.few; simpa [pnL] using this
  have hne := good_sz hg
  have htx := fun (W : World) => (⟨sl1 W n, fun s hs => by simp only [List.mem_singleton] at hs; subst hs; exact hnz⟩ : TxI [n] (.slice (some ⟨W.heap.size, 0, none⟩) 1 1) (W.alloc (.cells #[.string n] 9)))
  have HBY := hidd (fun W (hW : Below w.heap.size w W) => byName_any L [n] (.slice a L.length cap) (.slice (some ⟨W.heap.size, 0, none⟩) 1 1) _ (h.ob (hW.alloc hW.size _)) (htx W) hne (by omega))
  obtain ⟨R1, R2⟩ := R
  simp only at hc
  subst hc
  by_cases hq : ([n].all fun s => inB s (nmL L)) = true
  rotate_left
  · have hq' : ([n].all fun s => inB s (nmL L)) = false := by simpa using hq
    have HCE : Hid (closE L [n] = (6, -1)) := hidd (by unfold closE; rw [hR, if_pos rfl, if_neg hq])
    unfold ByP at HBY
    rw [hq'] at HBY
    have HE := hidd (fun W (hW : Below w.heap.size w W) => hE.ob hW)
    clear h hE hR hg hne hq hq' htx
    go_enter Tryz.func16, Tryz.ntmps16
    go_wp2_with fail
    refine HC1.out.mono ?_
    rintro e w1 ⟨ev, rfl, hf, hb⟩
    obtain rfl := FaV.nil hf
    clear hf HC1
    go_wp2_with fail
    refine (HBY.out w1 hb).mono ?_
    rintro e w2 ⟨m, rfl, -, -, hb2⟩
    have hB2 := below_step (hb.alloc hb.size _) hb2
    have hcE := (HE.out _ hB2).cell 2 (by decide)
    unfold erv at hcE
    clear hb2 hb HBY
    go_wp2_with fail
    go_quiet (fail)
    go_wp2_with fail
    go_ret2
    exact ⟨[], none, 0, _, rfl, by rw [HCE.out]; exact .inr (.inl ⟨by decide, rfl, rfl⟩), txi_nil _, hB2.trans ((below_dn w2 nq).mono hB2.size), fun h => absurd (by rw [HCE.out] at h; exact h) (by decide), fun _ => rfl⟩
  have HCE : Hid (closE L [n] = (0, -1)) := hidd (by unfold closE; rw [hR, if_pos rfl, if_pos hq])
  have HIN : Hid (n ∈ nmL L) := hidd (inB_iff.1 (List.all_eq_true.1 hq n (by simp)))
  unfold ByP at HBY
  rw [hq] at HBY
  have HH := hidd (fun W (hW : Below w.heap.size w W) => h.ob hW)
  have HG := hidd hg
  obtain ⟨i0, hi0, hz0, hz1, hz2⟩ := info_parts infoTx3
  clear h hE hR hg hne hq htx
  go_enter Tryz.func16, Tryz.ntmps16
  go_wp2_with fail
  refine HC1.out.mono ?_
  rintro e w1 ⟨ev, rfl, hf, hb⟩
  obtain rfl := FaV.nil hf
  clear hf HC1
  go_wp2_with fail
  refine (HBY.out w1 hb).mono ?_
  rintro e w2 ⟨mm, rfl, -, -, hb2⟩
  have hB2 := below_step (hb.alloc hb.size _) hb2
  clear hb2 hb HBY
  go_wp2_with fail
  go_loopw [9, 29] (fun vo vi wr => ∃ (k : Nat) (va : Option Addr) (vc : Nat) (o : List ByteArray), k ≤ L.length ∧ vi = .int .i64 (k : Int) ∧ vo = .slice va o.length vc ∧ o = usersOf (pnL (L.take k)) n ∧ Ow (fun g => w.heap.size ≤ g) wr 9 1 (.slice va o.length vc) o.length (tcells o) ∧ Below w.heap.size w wr) (fun _ vi _ => L.length - (intOf vi).toNat)
  case atStart => exact ⟨0, none, 0, [], Nat.zero_le _, rfl, rfl, rfl, Ow.nil _ _ _ _, hB2⟩
  case round =>
    obtain ⟨k, va, vc, o, hk, rfl, rfl, ho, how, hBr⟩ := hrel
    by_cases hlt : k < L.length
    · obtain ⟨b1, o1, rfl, hb1, a0, a1, a2, a3, a4, a5⟩ := (HH.out wr hBr).at hlt
      have hok := (HH.out wr hBr).2 _ (List.getElem_mem hlt)
      have p1 : (0 : Int) ≤ (k : Int) := by omega
      have p2 : (k : Int) < (L.length : Int) := by omega
      have hus := fun q (hq : usB n L[k].pn = q) => users_succ2 L n hlt hq
      rw [← ho] at hus
      have holen : o.length ≤ 40 := by
        have := users_le (L.take k) n
        rw [← ho, List.length_take] at this
        omega
      generalize L[k] = pv at *
      obtain ⟨nm, ra, rc, rs, kk, dd, ee, ta, tn, tc⟩ := pv
      simp only [Pv.rv, Pv.tv] at a0 a1 a2 a3 a4 a5
      simp only [Pv.pn] at hus
      have hB1 : Below wr.heap.size wr (wr.alloc (.cells #[.string nm, .slice ra rs.length rc, .string kk, .string dd, .bool ee, .slice ta tn tc] 49)) := (Below.refl _ _).alloc (Nat.le_refl _) _
      have hbk := Blk.new wr [.string nm, .slice ra rs.length rc, .string kk, .string dd, .bool ee, .slice ta tn tc] 49
      have hB3 := below_step hBr hB1
      have how3 := how.ob hB1
      have hok3 := hok.ob hB1
      clear how hok hBr hB1 ho
      by_cases heq : nm = n
      · have t1 : (nm.toList == n.toList) = true := by rw [heq]; exact beq_self_eq_true _
        have t2 : (nm.toList != n.toList) = false := by rw [heq]; simp
        have HU : Hid (usersOf (pnL (L.take (k + 1))) n = o) := hidd (by rw [hus false (by simp [usB, heq])]; simp)
        have HO := hidd how3
        have d0 := hbk.cell (i := 0) rfl
        clear hus how3 hok3 hbk heq
        go_wp2_with fail
        go_roundw
        case rel => exact ⟨k + 1, va, vc, o, hlt, by go_num, rfl, HU.out.symm, HO.out, hB3⟩
        case measure => simp [intOf]; omega
      · have t1 : (nm.toList == n.toList) = false := by
          rw [beq_eq_false_iff_ne]
          intro e
          exact heq (toList_inj (by rwa [Lib.toList_data, Lib.toList_data] at e))
        have t2 : (nm.toList != n.toList) = true := by simp only [bne, t1]; rfl
        have hCT := contains_txt rs (.slice ra rs.length rc) n _ hok3.txi
        have d0 := hbk.cell (i := 0) rfl
        have d1 := hbk.cell (i := 1) rfl
        cases hin : inB n rs
        · have HU : Hid (usersOf (pnL (L.take (k + 1))) n = o) := hidd (by rw [hus false (by simp [usB, hin])]; simp)
          rw [hin] at hCT
          have HO := hidd how3
          have HC := hidd hCT
          clear hus how3 hok3 hCT hbk heq hin
          go_wp2_with fail
          refine HC.out.mono ?_
          rintro e w5 ⟨rfl, hb5⟩
          have hB5 := below_step hB3 hb5
          have HO5 := hidd (HO.out.ob hb5)
          clear hb5 hB3 HO HC
          go_wp2_with fail
          go_roundw
          case rel => exact ⟨k + 1, va, vc, o, hlt, by go_num, rfl, HU.out.symm, HO5.out, hB5⟩
          case measure => simp [intOf]; omega
        · have HU : Hid (usersOf (pnL (L.take (k + 1))) n = o ++ [nm]) := hidd (by rw [hus true (by simp [usB, hin, heq])]; simp)
          rw [hin] at hCT
          have HO := hidd how3
          have HC := hidd hCT
          clear hus how3 hok3 hCT heq hin
          go_wp2_with fail
          refine HC.out.mono ?_
          rintro e w5 ⟨rfl, hb5⟩
          have hB5 := below_step hB3 hb5
          have HO5 := hidd ((HO.out.ob hb5).alloc (.cells #[.string nm] 9))
          have hbk := hbk.below hb5 hbk.lt
          have d0 := hbk.cell (i := 0) rfl
          have hs1 := Src.new (P := Tryz.prog) (size := 1) (tx := 23) Tryz.underlying23 w5 w5.heap.size rfl [.string nm] 9 rfl (by intro u hu; simp only [List.mem_cons, List.not_mem_nil, or_false] at hu; rcases hu with rfl; rfl) 1
          have hB6 := hB5.alloc hB5.size (.cells #[.string nm] 9)
          have hsz6 := hB6.size
          have hsz5 := hB5.size
          clear hb5 hB3 HO HC hB5
          go_wp2_with (at_builtin; refine wpList_append_ow _ rfl _ _ 23 23 rfl (fun g => w.heap.size ≤ g) ?cF 9 i0 _ 1 16 Tryz.underlying23 hi0 hz0 hz1 hz2 rfl (by decide) _ _ _ rfl HO5.out _ _ _ rfl hs1 ?c3 ?c4 ?_)
          case cF => intro g hg; omega
          case c3 => unfold maxLen; omega
          case c4 => omega
          intro v' w7 how7 hgr7
          obtain ⟨va7, vc7, rfl⟩ := how7.shape
          have HO7 := hidd how7
          have HB7 := hidd (hB6.grown hgr7 hB6.size (fun k hk => (HO5.out.blk k hk).1))
          clear how7 hgr7 HO5 hs1 hB6 hsz6 hsz5
          go_wp2_with fail
          go_roundw
          case rel => exact ⟨k + 1, va7, vc7, o ++ [nm], hlt, by go_num, by rw [List.length_append]; rfl, HU.out.symm, by rw [List.length_append, show tcells (o ++ [nm]) = tcells o ++ [.string nm] by simp [tcells]]; exact HO7.out, HB7.out⟩
          case measure => simp [intOf]; omega
    · have hkl : k = L.length := by omega
      subst hkl
      rw [List.take_of_length_le (Nat.le_refl _)] at ho
      have holen : o.length ≤ 40 := by
        have := users_le L n
        rw [← ho] at this
        omega
      have HSO := hidd (sort_txt (fun g => w.heap.size ≤ g) o (.slice va o.length vc) wr how (by omega))
      have HUN : Hid (∀ w', Sl w' (.slice va o.length vc) (tcells (srt (byt o))) (srt (byt o)).length 1 → wr.grownBy w' (Value.slice va o.length vc).ownBlock → UsP E L n w (.returned (.tuple #[.slice va o.length vc, .nilIface])) w') := hidd (fun w' hs hgr => by
        have hl : (srt (byt o)).length = o.length := by rw [srt_len]; simp [byt]
        have hnd : o.Nodup := by rw [ho]; exact users_nodup HG.out.one n
        have hm : ∀ s, s ∈ srt (byt o) ↔ s ∈ o := fun s => by rw [srt_mem, byt_mem]
        have hsz : ∀ s ∈ srt (byt o), Sz s := fun s hs => by
          have := (hm s).1 hs
          rw [ho] at this
          obtain ⟨p, hp, rfl, -⟩ := mem_users.1 this
          obtain ⟨q, hq, rfl⟩ := List.mem_map.1 hp
          exact ((HH.out wr hBr).2 q hq).nm
        refine ⟨srt (byt o), va, vc, _, by rw [hl], by rw [HCE.out]; exact .inl ⟨rfl, rfl⟩, ⟨by rw [hl] at hs ⊢; exact hs, hsz⟩, hBr.grown hgr hBr.size (fun k hk => (how.blk k hk).1), fun _ => ⟨HG.out, HIN.out, srt_up (byt_nodup hnd), fun s => by rw [hm, ho]⟩, fun h => absurd (by rw [HCE.out]) h⟩)
      clear ho how hBr holen
      go_wp2_with fail
      refine HSO.out.mono ?_
      rintro e w6 ⟨rfl, hs6, hg6⟩
      have HF := hidd (HUN.out w6 hs6 hg6)
      clear hs6 hg6 HUN HSO
      go_wp2_with fail
      go_ret2
      exact HF.out
end Go.Proofs.YtlcabkhalockpaaGreatDoor
