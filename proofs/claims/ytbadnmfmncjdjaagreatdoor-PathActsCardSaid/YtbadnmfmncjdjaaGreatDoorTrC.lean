/- The contract of tree.Check. Condition: the tree is there, the variables read as listed. -/
import Derived.Test.YtbadnmfmncjdjaaGreatDoorTrW
import Derived.Test.YtbadnmfmncjdjaaGreatDoorTrA
namespace Go.Proofs.YtbadnmfmncjdjaaGreatDoor
open Go.RowKit Go.Shelf

theorem evc_ne {E : Nat → Addr} {c : Nat} (h : c ≠ 0) : evc E c = .iface 203 (.pointer (some (E (codeGs.getD (c - 1) 0)))) := by
  unfold evc erv; rw [if_neg h]
theorem scan_kids (c d : Nat) (ks : List (ByteArray × Lt)) {k : Nat} (hk : k < ks.length) (h0 : scan c (pres ⟨#[]⟩ d (ks.take k)) = 0) :
    scan c (pres ⟨#[]⟩ d (ks.take (k + 1))) = scan (c + Tr.szs (ks.take k)) (pre ⟨#[]⟩ d ks[k].2) := by
  rw [List.take_succ_eq_append_getElem hk, pres_app, scan_app, if_pos h0, pres_len]
  rw [show ks[k] = (ks[k].1, ks[k].2) from rfl, pres_one, scan_path]
theorem scan_stop {c d : Nat} {ks : List (ByteArray × Lt)} {k : Nat} (hs : scan c (pres ⟨#[]⟩ d (ks.take k)) ≠ 0) : scan c (pres ⟨#[]⟩ d ks) = scan c (pres ⟨#[]⟩ d (ks.take k)) := by
  have e := List.take_append_drop k ks
  conv => lhs; rw [← e]
  rw [pres_app, scan_app, if_neg hs]
theorem szs_succ (ks : List (ByteArray × Lt)) {k : Nat} (hk : k < ks.length) : Tr.szs (ks.take (k + 1)) = Tr.szs (ks.take k) + ks[k].2.sz := by
  rw [List.take_succ_eq_append_getElem hk, Tr.szs_app]
  rw [show ks[k] = (ks[k].1, ks[k].2) from rfl, Tr.szs, Tr.szs]; rfl
theorem scan_room {c d : Nat} {p : ByteArray} {ks : List (ByteArray × Lt)} (h : scan c (pres p d ks) = 0) (hc : c ≤ 200) : c + Tr.szs ks ≤ 200 := by
  by_cases hn : pres p d ks = []
  · have := congrArg List.length hn
    rw [pres_len] at this
    simp at this; omega
  · have := (scan_zero h).2 hn
    rw [pres_len] at this; exact this
theorem scan_head {c d : Nat} {t : Lt} (hd : d ≤ 8) (hc : c < 200) (ho : ownE t = 0) : scan c (pre ⟨#[]⟩ d t) = scan (c + 1) (pres ⟨#[]⟩ (d + 1) t.kids) := by
  rw [pre_cons, scan, if_neg (by simp only; omega), if_neg (by omega), if_neg (by simp only; omega)]

theorem scan9 {c d : Nat} {t : Lt} (hd : 8 < d) : scan c (pre ⟨#[]⟩ d t) = 9 := by
  rw [pre_cons, scan]; exact if_pos hd
theorem scan8 {c d : Nat} {t : Lt} (hd : ¬ 8 < d) (hc : 200 ≤ c) : scan c (pre ⟨#[]⟩ d t) = 8 := by
  rw [pre_cons, scan]; exact (if_neg hd).trans (if_pos hc)
theorem scanO {c d : Nat} {t : Lt} (hd : ¬ 8 < d) (hc : ¬ 200 ≤ c) (ho : ownE t ≠ 0) : scan c (pre ⟨#[]⟩ d t) = ownE t := by
  rw [pre_cons, scan]; exact (if_neg hd).trans ((if_neg hc).trans (if_pos (by simp only; omega)))

/-- What the check of a node does: c nodes were counted, s is the number of its error. -/
def ChkP (E : Nat → Addr) (p c n s : Nat) (w : World) (e : Ending) (w' : World) : Prop :=
  e = .returned (evc E s) ∧ Fr (fun b => b = p) w w' ∧ (∃ c', Blk w' p [.int .i64 ((c' : Nat) : Int)] 112 ∧ (s = 0 → c' = c + n))
/-- the check is right for trees of so many nodes. -/
def ChkH (E : Nat → Addr) (B m : Nat) : Prop := ∀ (t : Lt) (w : World) (p c d : Nat), t.sz ≤ m → t.Ok w → t.In (fun b => b < p) → B ≤ p → Env trGs B w E → Blk w p [.int .i64 ((c : Nat) : Int)] 112 → c ≤ 200 → d ≤ 9 →
  Calls Tryz.prog 66 #[.pointer (some ⟨p, 0, none⟩), nval t, .int .i64 (d : Int)] w (ChkP E p c t.sz (scan c (pre ⟨#[]⟩ d t)) w)

set_option maxRecDepth 100000 in
set_option maxHeartbeats 40000000 in
theorem chk_step (E : Nat → Addr) (B m : Nat) (ih : ChkH E B m) : ChkH E B (m + 1) := by
  intro t w p c d hm ht hin hBp hE hp hc hd
  obtain ⟨a, cap, hv⟩ := ht.shape
  have hle := ht.le
  have HKA : Hid (∀ i (h : i < t.kids.length), t.kids[i].2.sz ≤ m) := hidd (fun i h => by have := Tr.sz_lt (List.getElem_mem h); omega)
  obtain ⟨s, hs⟩ : ∃ s, scan c (pre ⟨#[]⟩ d t) = s := ⟨_, rfl⟩
  have hsz := Tr.sz_kids t
  obtain ⟨o, ho⟩ : ∃ o, ownE t = o := ⟨_, rfl⟩
  have hlt0 := hp.lt
  have hc0 := hp.cell (i := 0) rfl
  have hfz0 := hp.frozen 0
  have hp1 := (hp.set 0 (.int .i64 ((c : Int) + 1))).alloc (.cells #[.string t.kind, .string t.data, .bool t.exec, .slice a t.kids.length cap] 24)
  have hp1c := hp1.cell (i := 0) rfl
  have hfr1 : Fr (fun b => b = p) w ((w.setCell ⟨p, 0, none⟩ (.int .i64 ((c : Int) + 1))).alloc (.cells #[.string t.kind, .string t.data, .bool t.exec, .slice a t.kids.length cap] 24)) := ((Fr.refl (fun b => b = p) w).setCell (p := ⟨p, 0, none⟩) (.inl rfl) _).alloc _
  have hbx := Blk.new (w.setCell ⟨p, 0, none⟩ (.int .i64 ((c : Int) + 1))) [.string t.kind, .string t.data, .bool t.exec, .slice a t.kids.length cap] 24
  rw [show (w.setCell ⟨p, 0, none⟩ (.int .i64 ((c : Int) + 1))).heap.size = w.heap.size by simp [World.setCell]] at hbx
  have hE1 := hE.fr hfr1 (fun b hb => by omega)
  have ht1 := ok_fr hfr1 t ht (in_mono (fun b hb => by omega) t hin)
  rw [hs, hsz]
  have HS := hidd hs
  clear hs hsz
  have hcn : ((c : Int) + 1) = ((c + 1 : Nat) : Int) := by omega
  have HCN := hidd hcn
  clear hcn
  have HPX : Hid (∀ s, s ≠ 0 → ∀ w', Fr (fun b => b = p) w w' → Blk w' p [.int .i64 ((c : Int) + 1)] 112 → ChkP E p c (Tr.szs t.kids + 1) s w (.returned (evc E s)) w') := hidd (fun s hs w' hf hb => ⟨rfl, hf, c + 1, by rw [← HCN.out]; exact hb, fun h => absurd h hs⟩)
  unfold nval
  rw [hv]
  by_cases hd8 : 8 < d
  · have h9 : s = 9 := HS.out.symm.trans (scan9 hd8)
    subst h9
    have d1 : decide ((8 : Int) < (d : Int)) = true := decide_eq_true (by omega)
    have d1' : decide (8 < d) = true := decide_eq_true (by omega)
    have hcE := hE1.cell 3 (by decide)
    unfold erv at hcE
    have HF := hidd (HPX.out 9 (by decide) _ hfr1 hp1)
    clear hE hE1 ht ht1 hbx hp hfr1 hp1 hin hv
    go_enter Tryz.func66, Tryz.ntmps66
    go_wp2_with fail
    go_ret
    exact HF.out
  have d1 : decide ((8 : Int) < (d : Int)) = false := decide_eq_false (by omega)
  have d1' : decide (8 < d) = false := decide_eq_false (by omega)
  by_cases hc2 : 200 ≤ c
  · have h9 : s = 8 := HS.out.symm.trans (scan8 hd8 hc2)
    subst h9
    have d2 : decide ((200 : Int) < (c : Int) + 1) = true := decide_eq_true (by omega)
    have hcE := hE1.cell 8 (by decide)
    unfold erv at hcE
    have HF := hidd (HPX.out 8 (by decide) _ hfr1 hp1)
    clear hE hE1 ht ht1 hbx hp hfr1 hp1 hin hv
    go_enter Tryz.func66, Tryz.ntmps66
    go_wp2_with fail
    go_ret
    exact HF.out
  have d2 : decide ((200 : Int) < (c : Int) + 1) = false := decide_eq_false (by omega)
  have HO := hidd (own_tree E B t ((w.setCell ⟨p, 0, none⟩ (.int .i64 ((c : Int) + 1))).alloc (.cells #[.string t.kind, .string t.data, .bool t.exec, .slice a t.kids.length cap] 24)) ht1 hE1)
  unfold nval at HO
  rw [hv] at HO
  have HV := hidd hv
  clear hv
  rw [ho] at HO
  by_cases ho0 : o = 0
  · subst ho0
    have hsh : s = scan (c + 1) (pres ⟨#[]⟩ (d + 1) t.kids) := HS.out.symm.trans (scan_head (by omega) (by omega) ho)
    have HSH := hidd hsh
    unfold OwnQ at HO
    rw [evc_zero] at HO
    clear hsh ho
    go_enter Tryz.func66, Tryz.ntmps66
    go_wp2_with fail
    refine HO.out.mono ?_
    rintro e w2 ⟨rfl, hb2⟩
    have hp2 := hp1.below hb2 hp1.lt
    rw [HCN.out] at hp2
    have hbx2 := hbx.below hb2 hbx.lt
    have hx3 := hbx2.cell (i := 3) rfl
    have hE2 := hE1.ob hb2
    have ht2 := ht1.ob hb2
    have hfr2 : Fr (fun b => b = p) w w2 := hfr1.trans (Fr.ob hb2)
    clear hE hE1 ht ht1 hbx hp hfr1 hp1 hb2 hbx2 hc0 hfz0 hp1c HO HPX
    go_wp2_with fail
    go_loopw [37] (fun v wr => ∃ k cn : Nat, k ≤ t.kids.length ∧ v = .int .i64 (k : Int) ∧ scan (c + 1) (pres ⟨#[]⟩ (d + 1) (t.kids.take k)) = 0 ∧ cn = c + 1 + Tr.szs (t.kids.take k) ∧ Blk wr p [.int .i64 (cn : Int)] 112 ∧ Fr (fun b => b = p) w2 wr) (fun v _ => t.kids.length - (intOf v).toNat)
    case atStart => exact ⟨0, c + 1, Nat.zero_le _, rfl, rfl, by simp [Tr.szs], hp2, Fr.refl _ _⟩
    case round =>
      obtain ⟨k, cn, hk, rfl, hsc, hcn, hpr, hfr⟩ := hrel
      have hroom := scan_room hsc (by omega)
      have hcn200 : cn ≤ 200 := by omega
      have hEr := hE2.fr hfr (fun b hb => by omega)
      have htr := ok_fr hfr t ht2 (in_mono (fun b hb => by omega) t hin)
      by_cases hlt : k < t.kids.length
      · have hks := HKA.out k hlt
        have hkk := htr.get hlt
        have hki := hin.get hlt
        obtain ⟨xa, xc, hxv⟩ := hkk.shape
        obtain ⟨b1, o1, rfl, hb1, a0, a1, a2, a3, a4⟩ := htr.at5 HV.out hlt
        have hst := scan_kids (c + 1) (d + 1) t.kids hlt hsc
        have hsz := szs_succ t.kids hlt
        have hstop := fun h => scan_stop (c := c + 1) (d := d + 1) (ks := t.kids) (k := k + 1) h
        have p1 : (0 : Int) ≤ (k : Int) := by omega
        have p2 : (k : Int) < (t.kids.length : Int) := by omega
        rw [← hcn] at hst
        generalize t.kids[k] = x at *
        obtain ⟨nx, ⟨kx, dx, ex, vx, ksx⟩⟩ := x
        simp only [Tr.kind, Tr.data, Tr.exec, Tr.v, Tr.kids] at a0 a1 a2 a3 a4 hxv
        subst hxv
        have hB3 : Below wr.heap.size wr (wr.alloc (.cells #[.string nx, .string kx, .string dx, .bool ex, .slice xa ksx.length xc] 67)) := (Below.refl _ _).alloc (Nat.le_refl _) _
        have HC := hidd (ih _ _ p cn (d + 1) hks (hkk.ob hB3) hki hBp (hEr.ob hB3) (hpr.below hB3 hpr.lt) hcn200 (by omega))
        unfold nval at HC
        simp only [Tr.kind, Tr.data, Tr.exec, Tr.v] at HC
        rw [show (((d + 1 : Nat)) : Int) = (d : Int) + 1 by omega] at HC
        simp only at hst
        obtain ⟨sk, hsk⟩ : ∃ sk, scan cn (pre ⟨#[]⟩ (d + 1) (.mk kx dx ex (.slice xa ksx.length xc) ksx : Lt)) = sk := ⟨_, rfl⟩
        rw [hsk] at hst HC
        have HST := hidd hst
        have HCN2 := hidd hcn
        have HSZ := hidd hsz
        have HSTOP := hidd hstop
        clear hst hcn hsz hstop hsk hsc
        have hpl := hpr.lt
        by_cases hs0 : sk = 0
        · subst hs0
          unfold ChkP at HC
          rw [evc_zero] at HC
          go_wp2_with fail
          refine HC.out.mono ?_
          rintro e w4 ⟨rfl, hf4, c', hp4, hc4⟩
          have hfr4 : Fr (fun b => b = p) w2 w4 := (hfr.trans (Fr.ob hB3)).trans hf4
          have HC4 := hidd (hc4 trivial)
          clear hf4 hB3 hkk hki htr hEr hpr hfr hc4 a0 a1 a2 a3 a4
          go_wp2_with fail
          go_roundw
          case rel => exact ⟨k + 1, c', hlt, by go_num, HST.out, by rw [HC4.out, HSZ.out, HCN2.out]; omega, hp4, hfr4⟩
          case measure => simp [intOf]; omega
        · have hne := evc_ne (E := E) hs0
          unfold ChkP at HC
          rw [hne] at HC
          have HNE := hidd hne
          clear hne
          have HS9 : Hid (s = sk) := hidd (by rw [HSH.out, HSTOP.out (by rw [HST.out]; exact hs0), HST.out])
          go_wp2_with fail
          refine HC.out.mono ?_
          rintro e w4 ⟨rfl, hf4, c', hp4, hc4⟩
          have hfr4 : Fr (fun b => b = p) w w4 := hfr2.trans ((hfr.trans (Fr.ob hB3)).trans hf4)
          have HF : Hid (ChkP E p c (Tr.szs t.kids + 1) s w (.returned (evc E sk)) w4) := hidd ⟨by rw [HS9.out], hfr4, c', hp4, fun h => absurd (HS9.out.symm.trans h) hs0⟩
          rw [HNE.out] at HF
          clear hf4 hB3 hkk hki htr hEr hpr hfr hc4 a0 a1 a2 a3 a4
          go_wp2_with fail
          go_ret
          exact HF.out
      · have hkl : k = t.kids.length := by omega
        have HF : Hid (ChkP E p c (Tr.szs t.kids + 1) s w (.returned .nilIface) wr) := hidd (by
          rw [hkl, List.take_of_length_le (Nat.le_refl _)] at hsc hcn
          have hs0 : s = 0 := by rw [HSH.out, hsc]
          exact ⟨by rw [hs0, evc_zero], hfr2.trans hfr, cn, hpr, fun _ => by omega⟩)
        clear hsc hcn hkl htr hEr hpr hfr hroom
        go_wp2_with fail
        go_ret
        exact HF.out
  · have h9 : s = o := HS.out.symm.trans ((scanO hd8 hc2 (by rw [ho]; exact ho0)).trans ho)
    subst h9
    have hne := evc_ne (E := E) ho0
    unfold OwnQ at HO
    rw [hne] at HO
    have HNE := hidd hne
    clear hE hE1 ht ht1 hbx hp hne ho hin
    go_enter Tryz.func66, Tryz.ntmps66
    go_wp2_with fail
    refine HO.out.mono ?_
    rintro e w2 ⟨rfl, hb2⟩
    have HF := hidd (HPX.out s ho0 _ (hfr1.trans (Fr.ob hb2)) (hp1.below hb2 hp1.lt))
    rw [HNE.out] at HF
    clear hp1 hfr1 hb2
    go_wp2_with fail
    go_ret
    exact HF.out

theorem chk_h (E : Nat → Addr) (B : Nat) : ∀ m, ChkH E B m
  | 0 => fun t w p c d hm => by have := Tr.sz_kids t; omega
  | m + 1 => chk_step E B m (chk_h E B m)

set_option maxRecDepth 100000 in
theorem check_tr (E : Nat → Addr) (B : Nat) (t : Lt) (w : World) (ht : t.Ok w) (hE : Env trGs B w E) :
    Calls Tryz.prog 36 #[nval t] w fun e w' => e = .returned (evc E (treeE t)) ∧ Below w.heap.size w w' := by
  obtain ⟨a, cap, hv⟩ := ht.shape
  have hB2 : Below w.heap.size w ((w.alloc (.cells #[.string t.kind, .string t.data, .bool t.exec, .slice a t.kids.length cap] 24)).alloc (.cells #[.int .i64 0] 112)) := ((Below.refl _ _).alloc (Nat.le_refl _) _).alloc (by simp) _
  have hb := Blk.new (w.alloc (.cells #[.string t.kind, .string t.data, .bool t.exec, .slice a t.kids.length cap] 24)) [.int .i64 ((0 : Nat) : Int)] 112
  rw [show (w.alloc (.cells #[.string t.kind, .string t.data, .bool t.exec, .slice a t.kids.length cap] 24)).heap.size = w.heap.size + 1 by simp] at hb
  have hC := chk_h E B t.sz t _ (w.heap.size + 1) 0 0 (Nat.le_refl _) (ht.ob hB2) (in_mono (fun b hb => by omega) t (ok_in t ht)) (by have := hE.size; omega) (hE.ob hB2) hb (by omega) (by omega)
  unfold nval at hC ⊢
  rw [hv] at hC ⊢
  unfold ChkP at hC
  rw [show scan 0 (pre ⟨#[]⟩ 0 t) = treeE t from rfl] at hC
  by_cases h0 : treeE t = 0
  · rw [h0, evc_zero] at hC ⊢
    have HC := hidd hC
    clear hC hb ht hE hv h0
    go_enter Tryz.func36, Tryz.ntmps36
    go_wp2_with fail
    refine HC.out.mono ?_
    rintro e w2 ⟨rfl, hf, -⟩
    have hB := hB2.trans (hf.below (B := w.heap.size) (by simp; omega) (fun b hb => by omega))
    go_wp2_with fail
    go_ret
    exact ⟨rfl, hB⟩
  · rw [evc_ne h0] at hC ⊢
    have HC := hidd hC
    clear hC hb ht hE hv h0
    go_enter Tryz.func36, Tryz.ntmps36
    go_wp2_with fail
    refine HC.out.mono ?_
    rintro e w2 ⟨rfl, hf, -⟩
    have hB := hB2.trans (hf.below (B := w.heap.size) (by simp; omega) (fun b hb => by omega))
    go_wp2_with fail
    go_ret
    exact ⟨rfl, hB⟩
theorem check_any (E : Nat → Addr) (B : Nat) (t : Lt) (w : World) (ht : t.Ok w) (hE : Env codeGs B w E) :
    Calls Tryz.prog 36 #[nval t] w fun e w' => e = .returned (evc E (treeE t)) ∧ Below w.heap.size w w' := check_tr E B t w ht hE.tr
end Go.Proofs.YtbadnmfmncjdjaaGreatDoor
