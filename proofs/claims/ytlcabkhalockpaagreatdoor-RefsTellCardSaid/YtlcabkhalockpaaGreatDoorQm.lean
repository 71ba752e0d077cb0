/- The document's PacksFault. Condition: the packs are there. -/
import Derived.Test.YtlcabkhalockpaaGreatDoorQl
import Derived.Deep.CutRange
import Derived.Deep.CutBlock
namespace Go.Proofs.YtlcabkhalockpaaGreatDoor
open Go.RowKit Go.Shelf Go.Maps

/-- A pack's error by what is looked at first. -/
def e1P (o : List ByteArray) (nm : ByteArray) (rs : List ByteArray) : Nat := if isName nm = false then 5 else if inB nm o = true then 7 else if 20 < rs.length then 8 else 0
def e2P (e1 : Nat) (rs : List ByteArray) : Nat := if e1 ≠ 0 then e1 else if rising rs = true then 0 else 10
def badP (o : List ByteArray) (nm : ByteArray) (s : ByteArray) : Bool := !(decide (s = nm) || inB s o)
def e3P (o : List ByteArray) (nm : ByteArray) (e2 : Nat) (rs : List ByteArray) : Nat := if e2 ≠ 0 then e2 else if (rs.any (badP o nm)) = true then 6 else 0
theorem packF_e (o : List ByteArray) (nm : ByteArray) (rs : List ByteArray) : packF o (nm, rs) = e3P o nm (e2P (e1P o nm rs) rs) rs := by
  unfold packF packE e3P e2P e1P badP
  cases h1 : isName nm
  · simp
  · cases h2 : inB nm o
    · by_cases h3 : 20 < rs.length
      · simp [h3]
      · cases h4 : rising rs
        · simp [h3]
        · simp [h3]
    · simp
theorem e1P_le (o nm rs) : e1P o nm rs ≤ 8 := by
  unfold e1P
  repeat' split
  all_goals omega
theorem e2P_one {e1 : Nat} {rs : List ByteArray} : e2P e1 (rs.take 1) = e1 := by
  unfold e2P
  by_cases h : e1 = 0
  · subst h
    have : rising (rs.take 1) = true := by
      cases rs with
      | nil => rfl
      | cons x r => rfl
    simp [this]
  · simp [h]
theorem e2P_end {e1 : Nat} {rs : List ByteArray} {k : Nat} (h : e2P e1 (rs.take k) ≠ 0) : e2P e1 rs = e2P e1 (rs.take k) := by
  unfold e2P at h ⊢
  by_cases h1 : e1 = 0
  · subst h1
    simp only [ne_eq, not_true_eq_false, if_false] at h ⊢
    cases hr : rising (rs.take k)
    · have : rising rs = false := by
        cases hr2 : rising rs
        · rfl
        · rw [← List.take_append_drop k rs] at hr2
          rw [rising_front2 _ _ hr2] at hr
          cases hr
      simp [this]
    · rw [hr] at h
      simp at h
  · simp [h1]
theorem e2P_step {e1 : Nat} {rs : List ByteArray} {k : Nat} (h1 : 1 ≤ k) (hk : k < rs.length) (h : e2P e1 (rs.take k) = 0) : e2P e1 (rs.take (k + 1)) = if leB rs[k] (rs[k - 1]'(by omega)) = true then 10 else 0 := by
  unfold e2P at h ⊢
  by_cases h2 : e1 = 0
  · subst h2
    simp only [ne_eq, not_true_eq_false, if_false] at h ⊢
    cases hr : rising (rs.take k)
    · rw [hr] at h; simp at h
    · rw [rising_take2 h1 hk, hr]
      cases leB rs[k] (rs[k - 1]'(by omega)) <;> simp
  · simp [h2] at h
theorem e3P_end {o nm} {e2 : Nat} {rs : List ByteArray} {k : Nat} (h : e3P o nm e2 (rs.take k) ≠ 0) : e3P o nm e2 rs = e3P o nm e2 (rs.take k) := by
  unfold e3P at h ⊢
  by_cases h1 : e2 = 0
  · subst h1
    simp only [ne_eq, not_true_eq_false, if_false] at h ⊢
    cases hr : (rs.take k).any (badP o nm)
    · rw [hr] at h; simp at h
    · have : rs.any (badP o nm) = true := by
        rw [← List.take_append_drop k rs, List.any_append, hr]; rfl
      rw [this]
  · simp [h1]
theorem e3P_step {o nm} {e2 : Nat} {rs : List ByteArray} {k : Nat} (hk : k < rs.length) (h : e3P o nm e2 (rs.take k) = 0) : e3P o nm e2 (rs.take (k + 1)) = if badP o nm rs[k] = true then 6 else 0 := by
  unfold e3P at h ⊢
  by_cases h2 : e2 = 0
  · subst h2
    simp only [ne_eq, not_true_eq_false, if_false] at h ⊢
    cases hr : (rs.take k).any (badP o nm)
    · rw [List.take_succ_eq_append_getElem hk, List.any_append, hr]
      simp
    · rw [hr] at h; simp at h
  · simp [h2] at h
theorem e3P_nil {o nm} {e2 : Nat} : e3P o nm e2 [] = e2 := by
  unfold e3P
  by_cases h : e2 = 0 <;> simp [h]
/-- A fault as a value. -/
def fauV (R : Nat × Int) : Value := .agg #[.int .i64 (R.1 : Int), .int .i64 R.2]
/-- What PacksFault gives. -/
def PfP (R : Nat × Int) (w : World) (e : Ending) (w' : World) : Prop := e = .returned (fauV R) ∧ Below w.heap.size w w'
/-- What its rounds keep. -/
structure PfK (w : World) (o : List ByteArray) (v : Value) (W : World) : Prop where
  below : Below w.heap.size w W
  res : Blk W w.heap.size [.int .i64 0, .int .i64 0] 33
  ow : Ow (fun g => w.heap.size < g) W 9 1 v o.length (tcells o)
theorem PfK.later {w : World} {o : List ByteArray} {v : Value} {W W' : World} (h : PfK w o v W) (hb : Below W.heap.size W W') : PfK w o v W' := ⟨below_step h.below hb, h.res.below hb h.res.lt, h.ow.ob hb⟩

set_option maxRecDepth 100000 in
set_option maxHeartbeats 40000000 in
theorem packsFault_any (L : List Pv) (v : Value) (w : World) (h : PkI L v w) :
    Calls Tryz.prog 12 #[v] w (PfP (packsE (pnL L)) w) := by
  obtain ⟨a, cap, rfl⟩ := h.shape
  have hle := h.1.le
  have hpl : (pnL L).length = L.length := by simp [pnL]
  have hbA : Below w.heap.size w (w.alloc (.cells #[.int .i64 0, .int .i64 0] 33)) := (Below.refl _ _).alloc (Nat.le_refl _) _
  have hres := Blk.new w [.int .i64 0, .int .i64 0] 33
  by_cases h40 : 40 < L.length
  · have z1 : (40 : Int) < (L.length : Int) := by omega
    have HR : Hid (packsE (pnL L) = (8, -1)) := hidd (by unfold packsE; rw [if_pos (by omega)])
    have HRES := hidd hres
    have HBA := hidd hbA
    clear h hpl hbA hres
    go_enter Tryz.func12, Tryz.ntmps12
    go_wp2_with fail
    refine (bare_fn 8 _).mono ?_
    rintro e w1 ⟨rfl, hb1⟩
    have hr1 := HRES.out.below hb1 HRES.out.lt
    have f0 := hr1.frozen 0
    have f1 := hr1.frozen 1
    have c0 := hr1.cell (i := 0) rfl
    have c1 := hr1.cell (i := 1) rfl
    have s2 := (hr1.set 0 (.int .i64 8)).set 1 (.int .i64 (-1))
    have r0 := s2.cell (i := 0) rfl
    have r1 := s2.cell (i := 1) rfl
    have HB := hidd ((((HBA.out.trans (hb1.mono HBA.out.size))).setCell (p := ⟨w.heap.size, 0, none⟩) (Nat.le_refl _) (.int .i64 8)).setCell (p := ⟨w.heap.size, 1, none⟩) (Nat.le_refl _) (.int .i64 (-1)))
    clear hb1 hr1 s2 HRES HBA
    go_wp2_with fail
    refine bodyPost_ret (v := fauV (8, -1)) ?_ rfl ?_
    · rw [results_cell1 rfl]
      unfold fauV
      go_simp
    · exact ⟨by rw [HR.out], HB.out⟩
  have z1 : ¬ (40 : Int) < (L.length : Int) := by omega
  have hR0 : packsAt 0 (nmL (L.take 0)) (pnL (L.drop 0)) = packsE (pnL L) := by unfold packsE; rw [if_neg (by omega)]; rfl
  obtain ⟨R, hR⟩ : ∃ R, packsE (pnL L) = R := ⟨_, rfl⟩
  rw [hR] at hR0 ⊢
  obtain ⟨i0, hi0, hz0, hz1, hz2⟩ := info_parts infoTx3
  have HH := hidd (fun W (hW : Below w.heap.size w W) => h.ob hW)
  have HR0 := hidd hR0
  have HK0 : Hid (PfK w [] (.slice none 0 0) (w.alloc (.cells #[.int .i64 0, .int .i64 0] 33))) := hidd ⟨hbA, hres, Ow.nil _ _ _ _⟩
  clear h hpl hR hR0 hbA hres
  go_enter Tryz.func12, Tryz.ntmps12
  go_wp2_with fail
  go_loopw [3, 4] (fun va vi wr => ∃ (k : Nat) (oa : Option Addr) (oc : Nat) (o : List ByteArray), k ≤ L.length ∧ vi = .int .i64 (k : Int) ∧ va = .slice oa o.length oc ∧ o = nmL (L.take k) ∧ PfK w o (.slice oa o.length oc) wr ∧ packsAt k (nmL (L.take k)) (pnL (L.drop k)) = R) (fun _ vi _ => L.length - (intOf vi).toNat)
  case atStart => exact ⟨0, none, 0, [], Nat.zero_le _, rfl, rfl, rfl, HK0.out, HR0.out⟩
  case round =>
    obtain ⟨k, oa, oc, o, hk, rfl, rfl, ho, hK, hRk⟩ := hrel
    by_cases hlt : k < L.length
    · obtain ⟨b1, o1, rfl, hb1, a0, a1, a2, a3, a4, a5⟩ := (HH.out wr hK.below).at hlt
      have hok := (HH.out wr hK.below).2 _ (List.getElem_mem hlt)
      have p1 : (0 : Int) ≤ (k : Int) := by omega
      have p2 : (k : Int) < (L.length : Int) := by omega
      have hst := fun c (hc : packF (nmL (L.take k)) L[k].pn = c) => (packs_step2 L hlt hc).symm.trans hRk
      have hos := nmL_succ L hlt
      have hol : o.length = k := by rw [ho]; simp [nmL]; omega
      have HOL := hidd hol
      have hol40 : o.length ≤ 40 := by omega
      rw [← ho] at hst hos
      clear hRk hol
      generalize L[k] = pv at *
      obtain ⟨nm, ra, rc, rs, kk, dd, ee, ta, tn, tc⟩ := pv
      have hnm : Sz nm := hok.nm
      simp only [Pv.rv, Pv.tv] at a0 a1 a2 a3 a4 a5
      simp only [Pv.pn] at hst
      have htx := hok.txi
      have hrz := hok.rs
      simp only [Pv.rv] at htx hos hrz
      have hrl : rs.length ≤ 9223372036854775807 := htx.1.le
      rw [packF_e] at hst
      have hB1 : Below wr.heap.size wr (wr.alloc (.cells #[.string nm, .slice ra rs.length rc, .string kk, .string dd, .bool ee, .slice ta tn tc] 49)) := (Below.refl _ _).alloc (Nat.le_refl _) _
      have hbk := Blk.new wr [.string nm, .slice ra rs.length rc, .string kk, .string dd, .bool ee, .slice ta tn tc] 49
      have hK1 := hK.later hB1
      have HTX := hidd (fun W (hW : Below wr.heap.size wr W) => htx.ob hW)
      have HST := hidd hst
      have HOS := hidd hos
      have HLT := hidd hlt
      have HO := hidd ho
      clear hok hst hos htx hlt ho hK
      go_upto_region 9 with fail
      obtain ⟨pb, hpb⟩ : ∃ pb, wr.heap.size = pb := ⟨_, rfl⟩
      have HPB := hidd hpb
      rw [hpb] at hbk ⊢
      generalize wr.alloc (.cells #[.string nm, .slice ra rs.length rc, .string kk, .string dd, .bool ee, .slice ta tn tc] 49) = wa at *
      have c0 := hbk.cell (i := 0) rfl
      have c1 := hbk.cell (i := 1) rfl
      have HK1 := hidd hK1
      have HBK := hidd hbk
      have HNM := hidd (fun W => isName_any nm W hnm)
      have HIT := hidd (fun W (hW : Below wa.heap.size wa W) => inTexts_any o (.slice oa o.length oc) nm W ⟨(hK1.later hW).ow.sl, fun s hs => by rw [HO.out] at hs; obtain ⟨p, hp, rfl⟩ := List.mem_map.1 hs; exact ((HH.out wa (HK1.out.below)).2 p (List.mem_of_mem_take hp)).nm⟩)
      clear hK1 hbk hpb a0 a1 a2 a3 a4 a5
      go_wp2_with fail
      refine (HNM.out wa).mono ?_
      rintro e wb ⟨rfl, rfl⟩
      go_upto_if 28 with fail
      go_cut [6, 7] from 14 to 98 (fun ve _ wx => ∃ e1 : Nat, ve = .int .i64 (e1 : Int) ∧ e1 = e1P o nm rs ∧ Below wa.heap.size wa wx)
      case first =>
        cases hn : isName nm
        · have HE : Hid (5 = e1P o nm rs) := hidd (by unfold e1P; rw [if_pos hn])
          clear HIT hn
          go_wp2_with fail
          go_meet
          exact ⟨5, rfl, HE.out, Below.refl _ _⟩
        · cases hi : inB nm o
          · rw [hi] at HIT
            have HI := hidd (HIT.out wa (Below.refl _ _))
            by_cases h20 : 20 < rs.length
            · have HE : Hid (8 = e1P o nm rs) := hidd (by unfold e1P; rw [if_neg (by rw [hn]; simp), if_neg (by rw [hi]; simp), if_pos h20])
              have q : (20 : Int) < (rs.length : Int) := by omega
              clear HIT hn hi h20
              go_wp2_with fail
              refine HI.out.mono ?_
              rintro e wb ⟨rfl, hbb⟩
              have d1 := (HBK.out.below hbb HBK.out.lt).cell (i := 1) rfl
              go_wp2_with fail
              go_meet
              exact ⟨8, rfl, HE.out, hbb⟩
            · have HE : Hid (0 = e1P o nm rs) := hidd (by unfold e1P; rw [if_neg (by rw [hn]; simp), if_neg (by rw [hi]; simp), if_neg h20])
              have q : ¬ (20 : Int) < (rs.length : Int) := by omega
              clear HIT hn hi h20
              go_wp2_with fail
              refine HI.out.mono ?_
              rintro e wb ⟨rfl, hbb⟩
              have d1 := (HBK.out.below hbb HBK.out.lt).cell (i := 1) rfl
              go_wp2_with fail
              go_meet
              exact ⟨0, rfl, HE.out, hbb⟩
          · rw [hi] at HIT
            have HI := hidd (HIT.out wa (Below.refl _ _))
            have HE : Hid (7 = e1P o nm rs) := hidd (by unfold e1P; rw [if_neg (by rw [hn]; simp), if_pos hi])
            clear HIT hn hi
            go_wp2_with fail
            refine HI.out.mono ?_
            rintro e wb ⟨rfl, hbb⟩
            go_wp2_with fail
            go_meet
            exact ⟨7, rfl, HE.out, hbb⟩
      case rest =>
        obtain ⟨wf, hwf⟩ : ∃ W, W = wc := ⟨_, rfl⟩
        subst hwf
        obtain ⟨e1, rfl, he1, hbc⟩ := hcut
        have HK2 := hidd (HK1.out.later hbc)
        have HBK2 := hidd (HBK.out.below hbc HBK.out.lt)
        have HBC := hidd (below_step hB1 hbc)
        rw [← he1] at HST
        have he8 : e1 ≤ 8 := by rw [he1]; exact e1P_le _ _ _
        clear he1 hbc HIT HNM c0 c1
        go_upto_block 2 with fail
        go_cut [6, 8] from 14 to 98 (fun ve _ wx => ∃ e2 : Nat, ve = .int .i64 (e2 : Int) ∧ e2 = e2P e1 rs ∧ Below wf.heap.size wf wx)
        case first =>
          go_wp2_with fail
          go_loopw [6, 8] (fun ve vk wr => ∃ (k e : Nat), vk = .int .i64 (k : Int) ∧ ve = .int .i64 (e : Int) ∧ 1 ≤ k ∧ (k = 1 ∨ k ≤ rs.length) ∧ e = e2P e1 (rs.take k) ∧ Below wf.heap.size wf wr) (fun _ vk _ => rs.length + 1 - (intOf vk).toNat)
          case atStart => exact ⟨1, e1, rfl, rfl, Nat.le_refl _, .inl rfl, e2P_one.symm, Below.refl _ _⟩
          case round =>
            obtain ⟨m, ec, rfl, rfl, hm1, hm2, hec, hbe⟩ := hrel
            have d1 := (HBK2.out.below hbe HBK2.out.lt).cell (i := 1) rfl
            have hec10 : ec ≤ 10 := by rw [hec]; unfold e2P; split; omega; split <;> omega
            by_cases hmr : m < rs.length
            · have p3 : (0 : Int) ≤ (m : Int) := by omega
              have p4 : (m : Int) < (rs.length : Int) := by omega
              have HMR := hidd hmr
              by_cases he0 : ec = 0
              · subst he0
                obtain ⟨b3, o3, rfl, hb3, x0⟩ := (HTX.out wr (below_step HBC.out hbe)).at hmr
                obtain ⟨b4, o4, e4, hb4, x1⟩ := (HTX.out wr (below_step HBC.out hbe)).at (i := m - 1) (by omega)
                simp only [Option.some.injEq, Addr.mk.injEq] at e4
                obtain ⟨rfl, rfl, -⟩ := e4
                have hstep := e2P_step hm1 hmr hec.symm
                obtain ⟨m', rfl⟩ : ∃ m', m = m' + 1 := ⟨m - 1, by omega⟩
                simp only [Nat.add_sub_cancel] at x1 hstep
                have hlb : (Op.bytesLess rs[m' + 1].toList rs[m'].toList || rs[m' + 1].toList == rs[m'].toList) = leB rs[m' + 1] rs[m'] := rfl
                have p5 : (((m' + 1 : Nat) : Int) - 1) = (m' : Int) := by omega
                generalize rs[m' + 1] = y1 at *
                generalize rs[m'] = y2 at *
                cases hle2 : leB y1 y2
                all_goals
                  rw [hle2] at hstep hlb
                  have HSTP := hidd hstep
                  clear hstep hec hmr hle2
                  go_wp2_with fail
                  go_quiet (fail)
                  have hQ := below_dn wr nq
                  have hbq := below_step hbe hQ
                  generalize wr.drewN nq = wq at *
                  go_wp2_with fail
                · go_roundw
                  case rel => exact ⟨m' + 1 + 1, 0, by go_num, rfl, by omega, .inr HMR.out, by rw [HSTP.out]; rfl, hbq⟩
                  case measure => simp [intOf]; have := HMR.out; omega
                · go_roundw
                  case rel => exact ⟨m' + 1 + 1, 10, by go_num, rfl, by omega, .inr HMR.out, by rw [HSTP.out]; rfl, hbq⟩
                  case measure => simp [intOf]; have := HMR.out; omega
              · have q : ((ec : Int) == 0) = false := by rw [beq_eq_false_iff_ne]; omega
                have HF : Hid (ec = e2P e1 rs) := hidd (by rw [e2P_end (k := m) (by rw [← hec]; exact he0)]; exact hec)
                clear hec hmr he0
                go_wp2_with fail
                go_meet
                exact ⟨ec, rfl, HF.out, hbe⟩
            · have p4 : ¬ (m : Int) < (rs.length : Int) := by omega
              have HF : Hid (ec = e2P e1 rs) := hidd (by rw [hec, List.take_of_length_le (by omega)])
              clear hec hmr
              go_wp2_with fail
              go_meet
              exact ⟨ec, rfl, HF.out, hbe⟩
        case rest =>
          obtain ⟨wd, hwd⟩ : ∃ W, W = wc := ⟨_, rfl⟩
          subst hwd
          obtain ⟨e2, rfl, he2, hbc2⟩ := hcut
          have HK3 := hidd (HK2.out.later hbc2)
          have HBK3 := hidd (HBK2.out.below hbc2 HBK2.out.lt)
          have HBD := hidd (below_step HBC.out hbc2)
          rw [← he2] at HST
          have he10 : e2 ≤ 10 := by rw [he2]; unfold e2P; split; omega; split <;> omega
          have HIT := hidd (fun s (hs : Sz s) W (hW : Below wd.heap.size wd W) => inTexts_any o (.slice oa o.length oc) s W ⟨(HK3.out.later hW).ow.sl, fun s hs => by rw [HO.out] at hs; obtain ⟨p, hp, rfl⟩ := List.mem_map.1 hs; exact ((HH.out wd (HK3.out.below)).2 p (List.mem_of_mem_take hp)).nm⟩)
          clear he2 hbc2 HK2 HBK2
          go_upto_block 4 with fail
          go_cut [6, 9] from 14 to 98 (fun ve _ wx => ∃ e3 : Nat, ve = .int .i64 (e3 : Int) ∧ e3 = e3P o nm e2 rs ∧ Below wd.heap.size wd wx)
          case first =>
            go_wp2_with fail
            go_loopw [6, 9] (fun ve vk wr => ∃ (k e : Nat), vk = .int .i64 (k : Int) ∧ ve = .int .i64 (e : Int) ∧ k ≤ rs.length ∧ e = e3P o nm e2 (rs.take k) ∧ Below wd.heap.size wd wr) (fun _ vk _ => rs.length - (intOf vk).toNat)
            case atStart => exact ⟨0, e2, rfl, rfl, Nat.zero_le _, e3P_nil.symm, Below.refl _ _⟩
            case round =>
              obtain ⟨m, ec, rfl, rfl, hm2, hec, hbe⟩ := hrel
              have hbk := HBK3.out.below hbe HBK3.out.lt
              have d0 := hbk.cell (i := 0) rfl
              have d1 := hbk.cell (i := 1) rfl
              by_cases hmr : m < rs.length
              · have p3 : (0 : Int) ≤ (m : Int) := by omega
                have p4 : (m : Int) < (rs.length : Int) := by omega
                have HMR := hidd hmr
                by_cases he0 : ec = 0
                · subst he0
                  obtain ⟨b3, o3, rfl, hb3, x0⟩ := (HTX.out wr (below_step HBD.out hbe)).at hmr
                  have hstep := e3P_step hmr hec.symm
                  have hyz := hrz _ (List.getElem_mem hmr)
                  have hIY := fun W (hW : Below wr.heap.size wr W) => HIT.out rs[m] hyz W (below_step hbe hW)
                  generalize rs[m] = y at *
                  have t1 := txt_beq y nm
                  have t2 : (y.toList != nm.toList) = !decide (y = nm) := by unfold bne; rw [t1]
                  have hbl := hbk.lt
                  by_cases hyn : y = nm
                  · rw [decide_eq_true hyn] at t1 t2
                    have hbd : badP o nm y = false := by unfold badP; rw [decide_eq_true hyn]; rfl
                    rw [hbd] at hstep
                    have HSTP := hidd hstep
                    clear hstep hec hmr hIY hyn hbk
                    go_wp2_with fail
                    go_quiet (fail)
                    have hQ := below_dn wr nq
                    have hbq := below_step hbe hQ
                    generalize wr.drewN nq = wq at *
                    go_wp2_with fail
                    go_roundw
                    case rel => exact ⟨m + 1, 0, by go_num, rfl, HMR.out, by rw [HSTP.out]; rfl, hbq⟩
                    case measure => simp [intOf]; have := HMR.out; omega
                  · rw [decide_eq_false hyn] at t1 t2
                    have hbd : badP o nm y = !inB y o := by unfold badP; rw [decide_eq_false hyn]; rfl
                    rw [hbd] at hstep
                    cases hi : inB y o
                    all_goals
                      rw [hi] at hstep hIY
                      have HSTP := hidd hstep
                      have HTK := hidd hIY
                      have hz0 : Below wr.heap.size wr wr.drew := (Below.refl _ _).drew
                      have w0 : wr.drew.cell? ⟨b3, o3 + m, none⟩ = some (.string y) := x0
                      have w1 : wr.drew.cell? ⟨pb, 0, none⟩ = some (.string nm) := d0
                      have w2 : wr.drew.cell? ⟨pb, 1, none⟩ = some (.slice (some ⟨b3, o3, none⟩) rs.length rc) := d1
                      have HSC : Hid (∀ W', Below wr.heap.size wr W' → W'.cell? ⟨b3, o3 + m, none⟩ = some (.string y) ∧ W'.cell? ⟨pb, 0, none⟩ = some (.string nm) ∧ W'.cell? ⟨pb, 1, none⟩ = some (.slice (some ⟨b3, o3, none⟩) rs.length rc)) := hidd (fun W' hW => ⟨(hW.cell (p := ⟨b3, o3 + m, none⟩) hb3).trans x0, (hW.cell (p := ⟨pb, 0, none⟩) hbl).trans d0, (hW.cell (p := ⟨pb, 1, none⟩) hbl).trans d1⟩)
                      clear hstep hec hmr hIY hyn hbk
                      go_upto_region 24 with fail
                      first
                        | (go_region_held3 (fun W' => W'.cell? ⟨b3, o3 + m, none⟩ = some (.string y) ∧ W'.cell? ⟨pb, 0, none⟩ = some (.string nm) ∧ W'.cell? ⟨pb, 1, none⟩ = some (.slice (some ⟨b3, o3, none⟩) rs.length rc))
                            (first | exact HSC.out _ hz0 | exact HSC.out _ hb6w)
                            (first | (go_at_call 20; (with_reducible refine (HTK.out _ hz0).mono ?_); rintro e w6 ⟨rfl, hb6⟩; have hb6w := hz0.trans hb6)))
                        | fail
                    all_goals
                      have hbq := below_step hbe hb6w
                      go_wp2_with fail
                    · go_roundw
                      case rel => exact ⟨m + 1, 6, by go_num, rfl, HMR.out, by rw [HSTP.out]; rfl, hbq⟩
                      case measure => simp [intOf]; have := HMR.out; omega
                    · go_roundw
                      case rel => exact ⟨m + 1, 0, by go_num, rfl, HMR.out, by rw [HSTP.out]; rfl, hbq⟩
                      case measure => simp [intOf]; have := HMR.out; omega
                · have q : ((ec : Int) == 0) = false := by rw [beq_eq_false_iff_ne]; omega
                  have HF : Hid (ec = e3P o nm e2 rs) := hidd (by rw [e3P_end (k := m) (by rw [← hec]; exact he0)]; exact hec)
                  clear hec hmr he0 hbk
                  go_wp2_with fail
                  go_meet
                  exact ⟨ec, rfl, HF.out, hbe⟩
              · have p4 : ¬ (m : Int) < (rs.length : Int) := by omega
                have HF : Hid (ec = e3P o nm e2 rs) := hidd (by rw [hec, List.take_of_length_le (by omega)])
                clear hec hmr hbk
                go_wp2_with fail
                go_meet
                exact ⟨ec, rfl, HF.out, hbe⟩
          case rest =>
            obtain ⟨e3, rfl, he3, hbc3⟩ := hcut
            have hK4 := HK3.out.later hbc3
            have hbk4 := HBK3.out.below hbc3 HBK3.out.lt
            have hRR := HST.out e3 he3.symm
            by_cases h0 : e3 = 0
            · subst h0
              rw [if_pos rfl] at hRR
              have HRR := hidd hRR
              have d0 := hbk4.cell (i := 0) rfl
              have HO5 := hidd (hK4.ow.alloc (.cells #[.string nm] 9))
              have hsn := Src.new (P := Tryz.prog) (size := 1) (tx := 23) Tryz.underlying23 wc wc.heap.size rfl [.string nm] 9 rfl (by intro u hu; simp only [List.mem_cons, List.not_mem_nil, or_false] at hu; rcases hu with rfl; rfl) 1
              have hb5 := hK4.below.alloc hK4.below.size (.cells #[.string nm] 9)
              have hz5 := hK4.below.size
              have hrl5 := hK4.res.lt
              have HB5 := hidd hb5
              have HRES := hidd (hK4.res.alloc (.cells #[.string nm] 9))
              clear he3 hbc3 hbk4 hRR HIT HBK3 HK3 hb5 hK4 HST
              go_wp2_with (at_builtin; refine wpList_append_ow _ rfl _ _ 23 23 rfl (fun g => w.heap.size < g) ?cF 9 i0 _ 1 16 Tryz.underlying23 hi0 hz0 hz1 hz2 rfl (by decide) _ _ _ rfl HO5.out _ _ _ rfl hsn ?c3 ?c4 ?_)
              case cF => intro g hg; simp at hg; omega
              case c3 => unfold maxLen; omega
              case c4 => omega
              intro v6 w6 ho6 hg6
              obtain ⟨a6, c6, rfl⟩ := ho6.shape
              have hb6 := HB5.out.grown hg6 HB5.out.size (fun j ej => Nat.le_of_lt (HO5.out.blk j ej).1)
              have hr6 := HRES.out.grown hg6 (fun e => by have := (HO5.out.blk _ e.symm).1; omega)
              have HN : Hid (PfK w (o ++ [nm]) (.slice a6 (o.length + 1) c6) w6) := hidd ⟨hb6, hr6, by rw [List.length_append]; simpa [tcells, List.map_append] using ho6⟩
              clear ho6 hg6 hb6 hr6 HO5 HB5 HRES
              go_wp2_with fail
              go_roundw
              case rel => exact ⟨k + 1, a6, c6, o ++ [nm], HLT.out, by go_num, by rw [List.length_append]; rfl, HOS.out.symm, by rw [List.length_append]; exact HN.out, HRR.out⟩
              case measure => simp [intOf]; have := HLT.out; omega
            · rw [if_neg h0] at hRR
              have HRR := hidd hRR
              have q : (0 : Int) < (e3 : Int) := by omega
              have hr1 := hK4.res
              have f0 := hr1.frozen 0
              have f1 := hr1.frozen 1
              have c0 := hr1.cell (i := 0) rfl
              have c1 := hr1.cell (i := 1) rfl
              have s2 := (hr1.set 0 (.int .i64 (e3 : Int))).set 1 (.int .i64 (k : Int))
              have r0 := s2.cell (i := 0) rfl
              have r1 := s2.cell (i := 1) rfl
              have HB := hidd ((hK4.below.setCell (p := ⟨w.heap.size, 0, none⟩) (Nat.le_refl _) (.int .i64 (e3 : Int))).setCell (p := ⟨w.heap.size, 1, none⟩) (Nat.le_refl _) (.int .i64 (k : Int)))
              clear hr1 s2 hK4 hbk4 hRR he3 hbc3 HIT HBK3 HK3 HST
              go_wp2_with fail
              refine bodyPost_ret (v := fauV (e3, (k : Int))) ?_ rfl ?_
              · rw [results_cell1 rfl]
                unfold fauV
                go_simp
              · exact ⟨by rw [← HRR.out], HB.out⟩
    · have hkl : k = L.length := by omega
      subst hkl
      have hR : R = (0, -1) := by
        rw [← hRk, List.drop_eq_nil_of_le (Nat.le_refl _)]; rfl
      have HR := hidd hR
      have hK1 := hK.later (Below.refl _ _)
      have HK := hidd hK
      clear hRk ho hK hK1 hR
      go_wp2_with fail
      refine (fine_fn _).mono ?_
      rintro e w1 ⟨rfl, hb1⟩
      have hK1 := HK.out.later hb1
      have hr1 := hK1.res
      have f0 := hr1.frozen 0
      have f1 := hr1.frozen 1
      have c0 := hr1.cell (i := 0) rfl
      have c1 := hr1.cell (i := 1) rfl
      have s2 := (hr1.set 0 (.int .i64 0)).set 1 (.int .i64 (-1))
      have r0 := s2.cell (i := 0) rfl
      have r1 := s2.cell (i := 1) rfl
      have HB := hidd ((hK1.below.setCell (p := ⟨w.heap.size, 0, none⟩) (Nat.le_refl _) (.int .i64 0)).setCell (p := ⟨w.heap.size, 1, none⟩) (Nat.le_refl _) (.int .i64 (-1)))
      clear hb1 hr1 s2 hK1
      go_wp2_with fail
      refine bodyPost_ret (v := fauV (0, -1)) ?_ rfl ?_
      · rw [results_cell1 rfl]
        unfold fauV
        go_simp
      · exact ⟨by rw [HR.out], HB.out⟩
end Go.Proofs.YtlcabkhalockpaaGreatDoor
