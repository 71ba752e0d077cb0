/- The contract of refs.check. Condition: the packs are there, the variables read as listed. -/
import Derived.Test.YtlcabkhalockpaaGreatDoorQ4
namespace Go.Proofs.YtlcabkhalockpaaGreatDoor
open Go.RowKit Go.Maps

/-- The packs in plain words. -/
def pnL (l : List Pv) : List Pn := l.map Pv.pn
def nmL (l : List Pv) : List ByteArray := l.map (·.name)
theorem pnL_names (l : List Pv) : (pnL l).map (·.1) = nmL l := by simp [pnL, nmL, Pv.pn]
theorem below_dn (w : World) (k : Nat) : Below w.heap.size w (w.drewN k) := ⟨rfl, rfl, rfl, by simp [World.drewN, -World.drew_eq], fun _ _ => rfl⟩
theorem nmL_succ (L : List Pv) {k : Nat} (h : k < L.length) : nmL (L.take (k + 1)) = nmL (L.take k) ++ [L[k].name] := by
  rw [List.take_succ_eq_append_getElem h]
  unfold nmL
  rw [List.map_append]
  rfl
theorem packE_7 {a : List ByteArray} {p : Pn} (h : p.1 ∈ a) : packE a p = 7 := by unfold packE; rw [if_pos (inB_iff.2 h)]
theorem packE_8 {a : List ByteArray} {p : Pn} (h : p.1 ∉ a) (h2 : 20 < p.2.length) : packE a p = 8 := by unfold packE; rw [if_neg (by rw [inB_no.2 h]; simp), if_pos h2]
theorem packE_10 {a : List ByteArray} {p : Pn} (h : p.1 ∉ a) (h2 : ¬ 20 < p.2.length) (h3 : rising p.2 = false) : packE a p = 10 := by unfold packE; rw [if_neg (by rw [inB_no.2 h]; simp), if_neg h2, if_pos h3]
theorem packE_q {a x : List ByteArray} {p : Pn} (h : p.1 ∉ a) (h2 : ¬ 20 < p.2.length) (h3 : rising p.2 = true) (hx : ∀ s, s ∈ x ↔ s = p.1 ∨ s ∈ a) : packE a p = if (p.2.any fun s => !inB s x) = true then 6 else 0 := by
  unfold packE
  rw [if_neg (by rw [inB_no.2 h]; simp), if_neg h2, if_neg (by rw [h3]; simp)]
  have : (fun s => !(decide (s = p.1) || inB s a)) = fun s => !inB s x := by
    funext s
    congr 1
    rw [Bool.eq_iff_iff, Bool.or_eq_true, decide_eq_true_eq, inB_iff, inB_iff, hx]
  rw [this]
/-- What check keeps while it looks. -/
structure CkK (w : World) (p : Pv) (bx m : Nat) (x : List ByteArray) (n : Nat) (W : World) : Prop where
  below : Below w.heap.size w W
  bp : Blk W w.heap.size (pkcell p) 49
  bb : Blk W bx [.map (some m)] 64
  mp : MapS bvals W m n (setF x)
theorem CkK.later {w W W' : World} {p : Pv} {bx m n : Nat} {x : List ByteArray} (h : CkK w p bx m x n W) (hb : Below W.heap.size W W') : CkK w p bx m x n W' :=
  ⟨below_step h.below hb, h.bp.below hb h.bp.lt, h.bb.below hb h.bb.lt, h.mp.low hb⟩

set_option maxRecDepth 100000 in
set_option maxHeartbeats 40000000 in
theorem rcheck_any (E : Nat → Addr) (B : Nat) (L : List Pv) (v : Value) (i : Nat) (hi : i < L.length) (w : World) (h : PkI L v w) (hE : Env codeGs B w E) (h4 : L.length ≤ 100000) :
    Calls Tryz.prog 24 #[v, .int .i64 (i : Int)] w fun e w' => e = .returned (evc E (packE (nmL (L.take i)) L[i].pn)) ∧ Below w.heap.size w w' := by
  obtain ⟨a, cap, rfl⟩ := h.shape
  have hle := h.1.le
  obtain ⟨b1, o1, rfl, hb1, a0, a1, a2, a3, a4, a5⟩ := h.at hi
  have hpo := h.2 _ (List.getElem_mem hi)
  have p1 : (0 : Int) ≤ (i : Int) := by omega
  have p2 : (i : Int) < (L.length : Int) := by omega
  have p3 : (i : Int) ≤ (cap : Int) := by
    obtain ⟨_, _, he, _, h3, _⟩ := h.1
    simp only [Value.slice.injEq] at he
    omega
  obtain ⟨pv, hpv⟩ : ∃ p, L[i] = p := ⟨_, rfl⟩
  rw [hpv] at a0 a1 a2 a3 a4 a5 hpo ⊢
  have HH := hidd h
  clear h hpv
  have hpo' := hidd hpo
  obtain ⟨nm, ra, rc, rs, kk, dd, ee, ta, tn, tc⟩ := pv
  have hnm : Sz nm := hpo.nm
  simp only [Pv.rv, Pv.tv] at a0 a1 a2 a3 a4 a5
  have hp1 := Blk.new w [.string nm, .slice ra rs.length rc, .string kk, .string dd, .bool ee, .slice ta tn tc] 49
  have hB1 : Below w.heap.size w (w.alloc (.cells #[.string nm, .slice ra rs.length rc, .string kk, .string dd, .bool ee, .slice ta tn tc] 49)) := (Below.refl _ _).alloc (Nat.le_refl _) _
  have hz1 : Hid ((w.alloc (.cells #[.string nm, .slice ra rs.length rc, .string kk, .string dd, .bool ee, .slice ta tn tc] 49)).heap.size = w.heap.size + 1) := hidd (by simp)
  clear hpo
  have HE := hidd hE
  clear hE
  go_enter Tryz.func24, Tryz.ntmps24
  go_upto_region 2 with fail
  generalize w.alloc (.cells #[.string nm, .slice ra rs.length rc, .string kk, .string dd, .bool ee, .slice ta tn tc] 49) = w1 at *
  have hmk : (Sem.run Tryz.prog (Instr.makeMap 64 none) w1) = .ok (.map (some w1.heap.size)) (w1.alloc (.map #[] 0)) := rfl
  have hM0 := MapS.new bvals w1
  rw [setF_nil] at hM0
  obtain ⟨w3, hrun, hM3, hF3⟩ := hM0.store (t := 64) (e := 4) Tryz.underlying64 (by omega) nm (.bool true) (by simp [bvals]) hnm
  rw [setF_add] at hM3
  have hp2 := hp1.alloc (.map #[] 0)
  have c0 := hp2.cell (i := 0) rfl
  clear a0 a1 a2 a3 a4 a5
  go_upto_region 3 with fail
  have hlt1 := hp1.lt
  have hz1 := hz1.out
  have hlt3 := hF3.size
  have hz2 : (w1.alloc (.map #[] 0)).heap.size = w1.heap.size + 1 := by simp
  have hp3 : Blk w3 w.heap.size [.string nm, .slice ra rs.length rc, .string kk, .string dd, .bool ee, .slice ta tn tc] 49 := hp2.fr hF3 (fun e => by omega)
  have hB3 : Below w.heap.size w w3 := (hB1.alloc hB1.size _).trans (hF3.below (by omega) (fun b e => by omega))
  have hK4 : CkK w ⟨nm, ra, rc, rs, kk, dd, ee, ta, tn, tc⟩ w3.heap.size w1.heap.size [nm] 1 (w3.alloc (.cells #[.map (some w1.heap.size)] 64)) :=
    ⟨hB3.alloc hB3.size _, hp3.alloc _, Blk.new w3 [.map (some w1.heap.size)] 64, hM3.low ((Below.refl _ _).alloc (Nat.le_refl _) _)⟩
  have hmb : w.heap.size < w1.heap.size ∧ w1.heap.size < w3.heap.size := ⟨by omega, by omega⟩
  generalize w3.alloc (.cells #[.map (some w1.heap.size)] 64) = w4 at *
  generalize w3.heap.size = bx at *
  generalize w1.heap.size = mm at *
  clear c0 hp2 hp3 hB3 hB1 hM3 hM0 hrun hF3 hlt1 hlt3 hz1 hz2 hmk hp1
  have c0 := hK4.bp.cell (i := 0) rfl
  have c1 := hK4.bp.cell (i := 1) rfl
  have b0 := hK4.bb.cell (i := 0) rfl
  go_wp2_with fail
  go_loopw [22] (fun vi wr => ∃ (k : Nat) (x : List ByteArray), k ≤ i ∧ vi = .int .i64 (k : Int) ∧ CkK w ⟨nm, ra, rc, rs, kk, dd, ee, ta, tn, tc⟩ bx mm x (k + 1) wr ∧ (∀ s, s ∈ x ↔ s = nm ∨ s ∈ nmL (L.take k)) ∧ nm ∉ nmL (L.take k)) (fun vi _ => i - (intOf vi).toNat)
  case atStart => exact ⟨0, [nm], Nat.zero_le _, rfl, hK4, by simp [nmL], by simp [nmL]⟩
  case round =>
    obtain ⟨k, x, hk, rfl, hK, hx, hnk⟩ := hrel
    by_cases hlt : k < i
    · have hkL : k < L.length := by omega
      have hI := HH.out.ob hK.below
      obtain ⟨b1', o1', he, hb1', q0, q1, q2, q3, q4, q5⟩ := hI.at hkL
      simp only [Option.some.injEq, Addr.mk.injEq] at he
      obtain ⟨rfl, rfl, -⟩ := he
      have hqo := hI.2 _ (List.getElem_mem hkL)
      have r1 : (0 : Int) ≤ (k : Int) := by omega
      have r2 : (k : Int) < (i : Int) := by omega
      have hnx := nmL_succ L hkL
      have hmem : L[k].name ∈ nmL (L.take i) := List.mem_map.2 ⟨L[k], List.mem_take_iff_getElem.2 ⟨k, by omega, rfl⟩, rfl⟩
      generalize L[k] = qv at *
      obtain ⟨qn, qra, qrc, qrs, qk, qd, qe, qta, qtn, qtc⟩ := qv
      have hqs : Sz qn := hqo.nm
      simp only [Pv.rv, Pv.tv] at q0 q1 q2 q3 q4 q5
      simp only at hnx hmem
      have hKa := hK.later ((Below.refl wr.heap.size wr).alloc (Nat.le_refl _) (.cells #[.string qn, .slice qra qrs.length qrc, .string qk, .string qd, .bool qe, .slice qta qtn qtc] 49))
      have hqb := Blk.new wr [.string qn, .slice qra qrs.length qrc, .string qk, .string qd, .bool qe, .slice qta qtn qtc] 49
      have d0 := hKa.bp.cell (i := 0) rfl
      have e0 := hKa.bb.cell (i := 0) rfl
      by_cases heq : qn = nm
      · have ht : (qn.toList == nm.toList) = true := by rw [heq]; exact beq_self_eq_true _
        have hP := hidd (packE_7 (a := nmL (L.take i)) (p := (nm, rs)) (by rw [← heq]; exact hmem))
        have hcE := (HE.out.ob hKa.below).cell 7 (by decide)
        unfold erv at hcE
        have HB := hidd hKa.below
        clear hmem hnx heq hx hnk hI hK hKa hqo
        go_wp2_with fail
        go_ret
        exact ⟨by rw [show (⟨nm, ra, rc, rs, kk, dd, ee, ta, tn, tc⟩ : Pv).pn = (nm, rs) from rfl, hP.out]; rfl, HB.out⟩
      · have ht : (qn.toList == nm.toList) = false := by
          rw [beq_eq_false_iff_ne]
          intro e
          exact heq (toList_inj (by rwa [Lib.toList_data, Lib.toList_data] at e))
        obtain ⟨w6, hrun, hM6, hF6⟩ := hKa.mp.store (t := 64) (e := 4) Tryz.underlying64 (by omega) qn (.bool true) (by simp [bvals]) hqs
        rw [setF_add] at hM6
        have hK6 : CkK w ⟨nm, ra, rc, rs, kk, dd, ee, ta, tn, tc⟩ bx mm (qn :: x) (k + 1 + 1) w6 :=
          ⟨hKa.below.trans (hF6.below hKa.below.size (fun b e => by omega)), hKa.bp.fr hF6 (fun e => by omega), hKa.bb.fr hF6 (fun e => by omega), hM6⟩
        have HX : Hid (∀ s, s ∈ qn :: x ↔ s = nm ∨ s ∈ nmL (L.take (k + 1))) := hidd (fun s => by
          rw [hnx, List.mem_append, List.mem_cons, hx, List.mem_singleton]
          constructor
          · rintro (h | h | h)
            · exact .inr (.inr h)
            · exact .inl h
            · exact .inr (.inl h)
          · rintro (h | h | h)
            · exact .inr (.inl h)
            · exact .inr (.inr h)
            · exact .inl h)
        have HN : Hid (nm ∉ nmL (L.take (k + 1))) := hidd (by
          rw [hnx, List.mem_append, List.mem_singleton]
          rintro (h | h)
          · exact hnk h
          · exact heq h.symm)
        have g0 := hqb.cell (i := 0) rfl
        have HK6 := hidd hK6
        clear hmem hnx hx hnk hI hK hKa hqo hM6 hF6 hqb hK6 heq
        go_wp2_with fail
        go_roundw
        case rel => exact ⟨k + 1, qn :: x, hlt, by go_num, HK6.out, HX.out, HN.out⟩
        case measure => simp [intOf]; omega
    · obtain rfl : k = i := by omega
      have c1 : wr.cell? ⟨w.heap.size, 1, none⟩ = some (.slice ra rs.length rc) := hK.bp.cell (i := 1) rfl
      have hI := HH.out.ob hK.below
      have HPN : Hid (∀ c w', packE (nmL (L.take k)) (nm, rs) = c → ∀ (e : Ending), e = .returned (evc E c) → Below w.heap.size w w' → e = .returned (evc E (packE (nmL (L.take k)) (⟨nm, ra, rc, rs, kk, dd, ee, ta, tn, tc⟩ : Pv).pn)) ∧ Below w.heap.size w w') := hidd (fun c w' h e he hb => ⟨by rw [he, ← h]; rfl, hb⟩)
      have hrl := hpo'.out.sl.le
      by_cases h20 : 20 < rs.length
      · have z1 : decide ((20 : Int) < (rs.length : Int)) = true := decide_eq_true (by omega)
        have z2 : decide (20 < rs.length) = true := decide_eq_true h20
        have hP := hidd (packE_8 (a := nmL (L.take k)) (p := (nm, rs)) hnk h20)
        have hcE := (HE.out.ob hK.below).cell 0 (by decide)
        unfold erv at hcE
        have HB := hidd hK.below
        clear hx hnk hI hK
        go_wp2_with fail
        go_ret
        exact HPN.out 8 _ hP.out _ rfl HB.out
      have z1 : decide ((20 : Int) < (rs.length : Int)) = false := decide_eq_false (by omega)
      have z2 : decide (20 < rs.length) = false := decide_eq_false h20
      have HX := hidd hx
      have HN := hidd hnk
      clear hx hnk hI
      go_wp2_with fail
      clear z1 z2
      go_loopw [9] (fun vj wq => ∃ j : Nat, (j + 1 ≤ rs.length ∨ j = 0) ∧ vj = .int .i64 ((j : Int) + 1) ∧ CkK w ⟨nm, ra, rc, rs, kk, dd, ee, ta, tn, tc⟩ bx mm x (k + 1) wq ∧ rising (rs.take (j + 1)) = true) (fun vj _ => rs.length - (intOf vj).toNat)
      case atStart =>
        refine ⟨0, .inr rfl, rfl, hK, ?_⟩
        cases rs with
        | nil => rfl
        | cons a r => simp [rising]
      case round =>
        obtain ⟨j, hj, rfl, hKj, hris⟩ := hrel
        have hT : TxI rs (.slice ra rs.length rc) wr := (hpo'.out.ob hKj.below).txi
        have c1 : wr.cell? ⟨w.heap.size, 1, none⟩ = some (.slice ra rs.length rc) := hKj.bp.cell (i := 1) rfl
        by_cases hjl : j + 1 < rs.length
        · obtain ⟨b2, o2, rfl, hb2, f1⟩ := hT.at hjl
          obtain ⟨_, _, he, -, f2⟩ := hT.at (i := j) (by omega)
          simp only [Option.some.injEq, Addr.mk.injEq] at he
          obtain ⟨rfl, rfl, -⟩ := he
          have s1 : (0 : Int) ≤ (j : Int) := by omega
          have s2 : (j : Int) + 1 < (rs.length : Int) := by omega
          have s3 : (j : Int) < (rs.length : Int) := by omega
          have s4 : (0 : Int) ≤ (j : Int) + 1 := by omega
          have s5 : ((j : Int) + 1).toNat = j + 1 := by omega
          have s6 : IntKind.i64.wrap ((j : Int) + 1 - 1) = (j : Int) := by rw [IntKind.wrap_i64]; omega
          have hrt := rising_take2 (l := rs) (k := j + 1) (by omega) hjl
          simp only [Nat.add_sub_cancel] at hrt
          rw [hris, Bool.true_and] at hrt
          have hlb : (Op.bytesLess rs[j + 1].toList rs[j].toList || rs[j + 1].toList == rs[j].toList) = leB rs[j + 1] rs[j] := rfl
          have HHR : Hid (rising (rs.take (j + 1 + 1)) = false → rising rs = false) := hidd (fun h => by
            cases hr : rising rs
            · rfl
            · rw [← List.take_append_drop (j + 1 + 1) rs] at hr
              rw [rising_front2 _ _ hr] at h
              cases h)
          cases hl : leB rs[j + 1] rs[j]
          · rw [hl] at hlb hrt
            have HR := hidd hrt
            have HK1 := hidd hKj
            generalize rs[j + 1] = ra1 at *
            generalize rs[j] = ra0 at *
            clear hris hrt hl hT HHR
            go_upto_region 15 with fail
            go_quiet (fail)
            go_wp2_with fail
            go_roundw
            case rel => exact ⟨j + 1, .inl (by omega), by go_num, HK1.out.later (below_dn wr nq), HR.out⟩
            case measure => simp [intOf]; omega
          · rw [hl] at hlb hrt
            have hP := hidd (packE_10 (a := nmL (L.take k)) (p := (nm, rs)) HN.out h20 (HHR.out hrt))
            have hcE := (HE.out.ob hKj.below).cell 9 (by decide)
            unfold erv at hcE
            have HB := hidd hKj.below
            generalize rs[j + 1] = ra1 at *
            generalize rs[j] = ra0 at *
            clear hris hrt hl hT HHR hKj
            go_upto_region 15 with fail
            go_quiet (fail)
            go_wp2_with fail
            go_ret
            exact HPN.out 10 _ hP.out _ rfl (HB.out.trans ((below_dn wr nq).mono HB.out.size))
        · have hra : rising rs = true := by
            rw [← hris, List.take_of_length_le (by omega)]
          have s2 : ¬ ((j : Int) + 1 < (rs.length : Int)) := by omega
          have hP := packE_q (a := nmL (L.take k)) (x := x) (p := (nm, rs)) HN.out h20 hra HX.out
          have hC := cf_check (fun s => !inB s x) (.pointer (some ⟨bx, 0, none⟩)) rs (.slice ra rs.length rc) wr hT _ rfl (fun W s hW hs => chk_cl bx mm _ x s W (hKj.later hW).bb (hKj.later hW).mp hs)
          have HB := hidd hKj.below
          simp only at hP
          cases hq : rs.any fun s => !inB s x
          · rw [hq] at hP hC
            rw [if_neg (by simp)] at hP
            have HP := hidd hP
            have HC := hidd hC
            clear hP hC hq hra hris hKj hT
            go_wp2_with fail
            refine HC.out.mono ?_
            rintro e w9 ⟨rfl, hb9⟩
            go_wp2_with fail
            go_ret
            exact HPN.out 0 _ HP.out _ rfl (below_step HB.out hb9)
          · rw [hq] at hP hC
            rw [if_pos rfl] at hP
            have HP := hidd hP
            have HC := hidd hC
            clear hP hC hq hra hris hKj hT
            go_wp2_with fail
            refine HC.out.mono ?_
            rintro e w9 ⟨rfl, hb9⟩
            have hB9 := below_step HB.out hb9
            have hcE := (HE.out.ob hB9).cell 2 (by decide)
            unfold erv at hcE
            go_wp2_with fail
            go_ret
            exact HPN.out 6 _ HP.out _ rfl hB9
end Go.Proofs.YtlcabkhalockpaaGreatDoor
