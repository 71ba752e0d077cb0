/- The contract of refs.Check. Condition: the packs are there, the variables read as listed. -/
import Derived.Test.YtlcabkhalockpaaGreatDoorQ5
import Derived.Test.YtlcabkhalockpaaGreatDoorTrM
namespace Go.Proofs.YtlcabkhalockpaaGreatDoor
open Go.RowKit Go.Maps

/-- What an error value tells: its number and place. -/
def FaV (E : Nat → Addr) (v : Value) (c : Nat) (at_ : Int) (W : World) : Prop := (c = 0 ∧ v = .nilIface) ∨ (c ≠ 0 ∧ at_ = -1 ∧ v = evc E c) ∨ (c ≠ 0 ∧ ∃ f, v = .iface 56 (.pointer (some ⟨f, 0, none⟩)) ∧ Blk W f [.int .i64 at_, evc E c] 58)
theorem FaV.ob {E : Nat → Addr} {v : Value} {c : Nat} {a : Int} {W W' : World} (h : FaV E v c a W) (hb : Below W.heap.size W W') : FaV E v c a W' := by
  rcases h with h | h | ⟨h, f, hv, hf⟩
  · exact .inl h
  · exact .inr (.inl h)
  · exact .inr (.inr ⟨h, f, hv, hf.below hb hf.lt⟩)
def CkPost (E : Nat → Addr) (R : Nat × Int) (w : World) (e : Ending) (w' : World) : Prop := ∃ v, e = .returned v ∧ FaV E v R.1 R.2 w' ∧ Below w.heap.size w w'
theorem pnL_drop (L : List Pv) {k : Nat} (h : k < L.length) : pnL (L.drop k) = L[k].pn :: pnL (L.drop (k + 1)) := by
  rw [show L.drop k = L[k] :: L.drop (k + 1) from (List.getElem_cons_drop h).symm]; rfl
theorem packs_step (L : List Pv) {k : Nat} (h : k < L.length) : packsAt k (nmL (L.take k)) (pnL (L.drop k)) = if packF (nmL (L.take k)) L[k].pn = 0 then packsAt (k + 1) (nmL (L.take (k + 1))) (pnL (L.drop (k + 1))) else (packF (nmL (L.take k)) L[k].pn, (k : Int)) := by
  rw [pnL_drop L h, packsAt, nmL_succ L h]
  rfl
theorem packs_step2 (L : List Pv) {k : Nat} (h : k < L.length) {c : Nat} (hc : packF (nmL (L.take k)) L[k].pn = c) : packsAt k (nmL (L.take k)) (pnL (L.drop k)) = if c = 0 then packsAt (k + 1) (nmL (L.take (k + 1))) (pnL (L.drop (k + 1))) else (c, (k : Int)) := by subst hc; exact packs_step L h
theorem packF_5 {a : List ByteArray} {p : Pn} (h : isName p.1 = false) : packF a p = 5 := by unfold packF; rw [if_neg (by rw [h]; simp)]
theorem packF_E {a : List ByteArray} {p : Pn} (h : isName p.1 = true) : packF a p = packE a p := if_pos h

set_option maxRecDepth 100000 in
set_option maxHeartbeats 40000000 in
theorem rCheck_any (E : Nat → Addr) (B : Nat) (L : List Pv) (v : Value) (w : World) (h : PkI L v w) (hE : Env codeGs B w E) :
    Calls Tryz.prog 11 #[v] w (CkPost E (packsE (pnL L)) w) := by
  obtain ⟨a, cap, rfl⟩ := h.shape
  have hle := h.1.le
  have hpl : (pnL L).length = L.length := by simp [pnL]
  by_cases h40 : 40 < L.length
  · have z1 : decide ((40 : Int) < (L.length : Int)) = true := decide_eq_true (by omega)
    have z2 : decide (40 < L.length) = true := decide_eq_true h40
    have HR : Hid (packsE (pnL L) = (8, -1)) := hidd (by unfold packsE; rw [if_pos (by omega)])
    have hcE := hE.cell 0 (by decide)
    unfold erv at hcE
    clear h hE hpl
    go_enter Tryz.func11, Tryz.ntmps11
    go_wp2_with fail
    go_ret
    exact ⟨_, rfl, by rw [HR.out]; exact .inr (.inl ⟨by decide, rfl, rfl⟩), Below.refl _ _⟩
  have z1 : decide ((40 : Int) < (L.length : Int)) = false := decide_eq_false (by omega)
  have z2 : decide (40 < L.length) = false := decide_eq_false h40
  have hR0 : packsAt 0 (nmL (L.take 0)) (pnL (L.drop 0)) = packsE (pnL L) := by unfold packsE; rw [if_neg (by omega)]; rfl
  obtain ⟨R, hR⟩ : ∃ R, packsE (pnL L) = R := ⟨_, rfl⟩
  rw [hR] at hR0 ⊢
  have HCK := hidd (fun W (k : Nat) (hk : k < L.length) (hW : Below w.heap.size w W) => rcheck_any E B L (.slice a L.length cap) k hk W (h.ob hW) (hE.ob hW) (by omega))
  have HH := hidd (fun W (hW : Below w.heap.size w W) => h.ob hW)
  have HE := hidd (fun W (hW : Below w.heap.size w W) => hE.ob hW)
  have HR0 := hidd hR0
  clear h hE hpl hR hR0
  go_enter Tryz.func11, Tryz.ntmps11
  go_wp2_with fail
  clear z1 z2
  go_loopw [12] (fun vi wr => ∃ k : Nat, k ≤ L.length ∧ vi = .int .i64 (k : Int) ∧ Below w.heap.size w wr ∧ packsAt k (nmL (L.take k)) (pnL (L.drop k)) = R) (fun vi _ => L.length - (intOf vi).toNat)
  case atStart => exact ⟨0, Nat.zero_le _, rfl, Below.refl _ _, HR0.out⟩
  case round =>
    obtain ⟨k, hk, rfl, hBr, hRk⟩ := hrel
    by_cases hlt : k < L.length
    · obtain ⟨b1, o1, rfl, hb1, a0, a1, a2, a3, a4, a5⟩ := (HH.out wr hBr).at hlt
      have hok := (HH.out wr hBr).2 _ (List.getElem_mem hlt)
      have p1 : (0 : Int) ≤ (k : Int) := by omega
      have p2 : (k : Int) < (L.length : Int) := by omega
      have hst := fun c (hc : packF (nmL (L.take k)) L[k].pn = c) => (packs_step2 L hlt hc).symm.trans hRk
      clear hRk
      have HC := hidd (fun W (hW : Below w.heap.size w W) => HCK.out W k hlt hW)
      generalize L[k] = pv at *
      obtain ⟨nm, ra, rc, rs, kk, dd, ee, ta, tn, tc⟩ := pv
      have hnm : Sz nm := hok.nm
      simp only [Pv.rv, Pv.tv] at a0 a1 a2 a3 a4 a5
      simp only [Pv.pn] at hst HC
      have hB1 : Below wr.heap.size wr (wr.alloc (.cells #[.string nm, .slice ra rs.length rc, .string kk, .string dd, .bool ee, .slice ta tn tc] 49)) := (Below.refl _ _).alloc (Nat.le_refl _) _
      have hbk := Blk.new wr [.string nm, .slice ra rs.length rc, .string kk, .string dd, .bool ee, .slice ta tn tc] 49
      have hB2 := below_step hBr hB1
      have HX := hidd (HC.out _ hB2)
      have HNM := hidd (fun W => name_any nm W hnm)
      cases hnv : isName nm
      · -- no name
        have hRk := hst 5 (packF_5 (by exact hnv))
        rw [if_neg (by decide)] at hRk
        rw [hnv] at HNM
        have HRK := hidd hRk
        obtain ⟨c, hc⟩ : ∃ c, packE (nmL (L.take k)) (nm, rs) = c := ⟨_, rfl⟩
        rw [hc] at HX
        clear hRk hnv hc HC hok hBr hB1 hst
        obtain ⟨ev, hev⟩ : ∃ ev, evc E c = ev := ⟨_, rfl⟩
        rw [hev] at HX
        clear hev
        go_wp2_with fail
        refine HX.out.mono ?_
        rintro e w2 ⟨rfl, hb2⟩
        have hB3 := below_step hB2 hb2
        have hbk := hbk.below hb2 hbk.lt
        have c0 := hbk.cell (i := 0) rfl
        clear hb2 hB2 HX
        go_wp2_with fail
        refine (HNM.out _).mono ?_
        rintro e w3 ⟨rfl, hb3⟩
        have hB4 := below_step hB3 hb3
        have hcE := (HE.out _ hB4).cell 1 (by decide)
        unfold erv at hcE
        clear hb3 hB3 c0 hbk HNM
        go_wp2_with fail
        go_ret
        exact ⟨_, rfl, by rw [← HRK.out]; exact .inr (.inr ⟨by simp, _, rfl, Blk.new w3 _ _⟩), hB4.alloc hB4.size _⟩
      · obtain ⟨c, hc⟩ : ∃ c, packE (nmL (L.take k)) (nm, rs) = c := ⟨_, rfl⟩
        have hRk := hst c ((packF_E (by exact hnv)).trans hc)
        rw [hnv] at HNM
        rw [hc] at HX
        clear hnv hc HC hok hBr hB1 hst
        by_cases h0 : c = 0
        · subst h0
          rw [if_pos rfl] at hRk
          rw [evc_zero] at HX
          have HRK := hidd hRk
          clear hRk
          go_wp2_with fail
          refine HX.out.mono ?_
          rintro e w2 ⟨rfl, hb2⟩
          have hB3 := below_step hB2 hb2
          have hbk := hbk.below hb2 hbk.lt
          have c0 := hbk.cell (i := 0) rfl
          clear hb2 hB2 HX
          go_wp2_with fail
          refine (HNM.out _).mono ?_
          rintro e w3 ⟨rfl, hb3⟩
          have hB4 := below_step hB3 hb3
          clear hb3 hB3 c0 hbk HNM
          go_wp2_with fail
          go_roundw
          case rel => exact ⟨k + 1, hlt, by go_num, hB4, HRK.out⟩
          case measure => simp [intOf]; omega
        · rw [if_neg h0] at hRk
          have hev := evc_ne (E := E) h0
          rw [hev] at HX
          have HEV := hidd hev
          have HRK := hidd hRk
          clear hRk hev
          go_wp2_with fail
          refine HX.out.mono ?_
          rintro e w2 ⟨rfl, hb2⟩
          have hB3 := below_step hB2 hb2
          have hbk := hbk.below hb2 hbk.lt
          have c0 := hbk.cell (i := 0) rfl
          clear hb2 hB2 HX
          go_wp2_with fail
          refine (HNM.out _).mono ?_
          rintro e w3 ⟨rfl, hb3⟩
          have hB4 := below_step hB3 hb3
          clear hb3 hB3 c0 hbk HNM
          go_wp2_with fail
          go_ret
          exact ⟨_, rfl, by rw [← HRK.out]; exact .inr (.inr ⟨h0, _, rfl, by rw [HEV.out]; exact Blk.new w3 _ _⟩), hB4.alloc hB4.size _⟩
    · have hkl : k = L.length := by omega
      subst hkl
      rw [List.drop_length] at hRk
      have HRK := hidd hRk
      clear hRk HCK HH HE HR0
      go_wp2_with fail
      go_ret
      exact ⟨_, rfl, by rw [← HRK.out]; exact .inl ⟨rfl, rfl⟩, hBr⟩
end Go.Proofs.YtlcabkhalockpaaGreatDoor
