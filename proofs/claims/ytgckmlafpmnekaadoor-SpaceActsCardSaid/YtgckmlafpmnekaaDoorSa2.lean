/- The rounds of stillroomlaw2.SpaceActs. Condition: the argument is there, the sentinel errors read as listed. -/
import Derived.Test.YtgckmlafpmnekaaDoorSa
import Derived.Test.YtgckmlafpmnekaaDoorSaL
import Derived.Deep.MidRow
namespace Go.Proofs.YtgckmlafpmnekaaDoor
open Go.RowKit

structure Wanted where
  t : Int
  g : List Int
  is : Bool

/-- The argument: a list of wants. -/
def Wants (w : World) (a : Option Addr) (L : List Wanted) : Prop :=
  ∀ i (h : i < L.length), ∃ b off gv, a = some ⟨b, off, none⟩ ∧ w.cell? ⟨b, off + i * 3, none⟩ = some (.int .i64 L[i].t) ∧ w.cell? ⟨b, off + i * 3 + 1, none⟩ = some gv ∧ w.cell? ⟨b, off + i * 3 + 2, none⟩ = some (.bool L[i].is) ∧ Sl w gv (icells L[i].g) L[i].g.length 1

theorem freeTo_le (us : List Bool) : ∀ j, freeTo us j ≤ j
  | 0 => Nat.le_refl _
  | j + 1 => by have := freeTo_le us j; unfold freeTo; split <;> omega

theorem nfree_eq_sub (us : List Bool) (n : Nat) (h : us.length = n) : nfree us = n - (usedTo us n).length := by subst h; rfl

/-- The number after j rounds of the first check of a Give. -/
def eB (n : Nat) (gl : List Int) (j : Nat) : Int := if (gl.take j).any (badK n) = true then 2 else 0
theorem eB_bad {n : Nat} {gl : List Int} {j : Nat} (hj : j < gl.length) (h : badK n gl[j] = true) : eB n gl (j + 1) = 2 := by
  unfold eB
  rw [List.take_succ_eq_append_getElem hj, List.any_append]
  simp [h]
theorem eB_good {n : Nat} {gl : List Int} {j : Nat} (hj : j < gl.length) (h : badK n gl[j] = false) : eB n gl (j + 1) = eB n gl j := by
  unfold eB
  rw [List.take_succ_eq_append_getElem hj, List.any_append]
  simp [h]

/-- What stands behind j rounds of the second check of a Give. -/
def GvR (us : List Bool) (gl : List Int) (j : Nat) (e : Value) : Prop :=
  (e = .int .i64 0 ∧ gOk us gl j) ∨ (e = .int .i64 6 ∧ ∃ j0, j0 < gl.length ∧ gOk us gl j0 ∧ ¬ (us.getD (gl.getD j0 0).toNat false = true ∧ gl.getD j0 0 ∉ gl.take j0))
theorem gv_step {us : List Bool} {gl : List Int} {j : Nat} (hok : gOk us gl j) (hj : j < gl.length) : GvR us gl (j + 1) (.int .i64 (e6 us gl j j)) := by
  by_cases h : us.getD (gl.getD j 0).toNat false = true ∧ gl.getD j 0 ∉ gl.take j
  · left
    rw [e6_end.2 h]
    exact ⟨rfl, gOk_succ hok h.1 h.2⟩
  · right
    have h0 : e6 us gl j j ≠ 0 := fun e => h (e6_end.1 e)
    have h6 : e6 us gl j j = 6 := by
      revert h0; unfold e6; split <;> simp
    rw [h6]
    exact ⟨rfl, j, hj, hok, h⟩
theorem at1c {w : World} {b off cap : Nat} {l : List Int} (h : Sl w (.slice (some ⟨b, off, none⟩) l.length cap) (icells l) l.length 1) {i : Nat} (hi : i < l.length) :
    w.cell? ⟨b, off + i, none⟩ = some (.int .i64 l[i]) := by
  obtain ⟨b', off', he, -, hc, hx⟩ := h.at1 hi
  simp only [Option.some.injEq, Addr.mk.injEq] at he
  obtain ⟨rfl, rfl, -⟩ := he
  rw [hx]; simp [icells]

set_option maxRecDepth 100000 in
set_option maxHeartbeats 4000000 in
theorem sa_good (E : Nat → Addr) (n : Nat) (by_ : Int) (a : Option Addr) (cap : Nat) (L : List Wanted) (w : World) (henv : Env codeGs w.heap.size w E) (hh : Hnd w) (hn1 : 1 ≤ n) (hn2 : n ≤ 60) (hl : ¬ 60 < L.length) (h1 : by_ ≤ 100000) (h2 : -9223372036854775808 ≤ by_) (hL : Wants w a L) :
    Calls Tryd.prog 6 #[.int .i64 (n : Int), .slice a L.length cap, .int .i64 by_] w fun e w' => e = .returned (.bool true) ∧ Below w.heap.size w w' := by
  have hl' : ¬ (60 : Int) < (L.length : Int) := by omega
  have hby : ¬ 100000 < by_ := by omega
  have hnd : (if by_ < 1 then 0 else (by_ - 1) / 16 + 1) = need by_ := (need_eq by_).symm
  have d1 : decide ((n : Int) < 1) = false := by simp; omega
  have d1' : decide (n < 1) = false := by simp; omega
  have d2 : decide ((60 : Int) < (n : Int)) = false := by simp; omega
  have d2' : decide (60 < n) = false := by simp; omega
  have d3 : decide ((512 : Int) < (n : Int)) = false := by simp; omega
  have d3' : decide (512 < n) = false := by simp; omega
  go_enter Tryd.func6, Tryd.ntmps6
  go_wp2_with fail
  refine (roomy_true w).mono ?_
  rintro e w1 ⟨rfl, hb1⟩
  go_wp2_with fail
  refine (need_any by_ w1 (by omega)).mono ?_
  rintro e w1' ⟨rfl, rfl⟩
  rw [hnd]
  go_wp2_with fail
  refine (needOf_any by_ w1 (by omega) h2).mono ?_
  rintro e w1' ⟨rfl, rfl⟩
  go_wp2_with fail
  refine (spnew_ok n w1 hn1 (by omega)).mono ?_
  rintro e w2 ⟨p, r, rfl, hsp, hp, hr, hb2⟩
  have hB2 := hb1.trans (hb2.mono hb1.size)
  have hbp : w.heap.size ≤ p := Nat.le_trans hb1.size hp
  have hbr : w.heap.size ≤ r := Nat.le_trans hb1.size hr
  obtain ⟨i0, hi, hz0, hz1, hz2⟩ := info_parts infoB
  have hmk := run_makeSlice (P := Tryd.prog) w2 58 4 i0 (.bool false) Tryd.underlying58 hi hz0 .i64 .i64 (n : Int) (n : Int) (by omega) (Int.le_refl _) (by rw [hz1]; simp; omega) (by rw [hz2]; omega) (by omega)
  rw [Int.toNat_natCast, hz1] at hmk
  have hcs : madeCells (Value.bool false).cells (n * 1) = ((List.replicate n false).map Value.bool).toArray := by
    apply Array.toList_inj.1
    rw [Nat.mul_one, show (Value.bool false).cells = #[Value.bool false] from rfl, toList_madeCells_one]
    simp
  rw [hcs] at hmk
  generalize hC : (List.replicate n false).map Value.bool = C at hmk
  have HC := hidd hC
  clear hb1 hb2 hp hr hnd hz0 hz1 hz2 hi hcs hC
  go_wp2_with fail
  have hu0 : Blk (w2.alloc (.cells C.toArray 4)) w2.heap.size ((List.replicate n false).map Value.bool) 4 := by rw [HC.out]; exact Blk.new w2 C 4
  have hsp' := hsp.alloc (.cells C.toArray 4)
  have hB3 := hB2.alloc hB2.size (.cells C.toArray 4)
  have hup : w2.heap.size ≠ p := by have := hsp.head.lt; omega
  have hur : w2.heap.size ≠ r := by have := hsp.row.lt; omega
  have hbu : w.heap.size ≤ w2.heap.size := hB2.size
  generalize w2.alloc _ = W3 at *
  generalize w2.heap.size = u at *
  clear hmk HC hsp hB2
  go_loopw [11] (fun i wr => ∃ (k : Nat) (us : List Bool), k ≤ L.length ∧ i = .int .i64 k ∧ us.length = n ∧ SpAt wr p r us ∧ Blk wr u (us.map Value.bool) 4 ∧ Below w.heap.size w wr) (fun i _ => L.length - (intOf i).toNat)
  case atStart => exact ⟨0, _, by omega, rfl, by simp, hsp', hu0, hB3⟩
  case round =>
    obtain ⟨k, us, hk, rfl, hus, hsp, hu, hB⟩ := hrel
    clear hsp' hu0 hB3
    by_cases hlt : k < L.length
    · obtain ⟨b, off, gv, rfl, c0, c1, c2, hg⟩ := hL k hlt
      have hgw := hg
      have hg := hg.ob hB (Nat.le_refl _)
      rw [← hB.cell (World.block_lt_of_cell? w _ c0)] at c0
      rw [← hB.cell (World.block_lt_of_cell? w _ c1)] at c1
      rw [← hB.cell (World.block_lt_of_cell? w _ c2)] at c2
      rcases hLk : L[k] with ⟨t, gl, is⟩
      simp only [hLk] at c0 c1 c2 hg hgw
      have q1 : (0 : Int) ≤ (k : Int) := by omega
      have q2 : (k : Int) < (L.length : Int) := by omega
      have henvr := henv.ob hB
      have hhr := hh.below hB (Nat.le_refl _)
      obtain ⟨ga, gcap, rfl, -⟩ := id hg
      by_cases h70 : 70 < gl.length
      · have h70' : (70 : Int) < (gl.length : Int) := by omega
        go_wp2_with fail
        go_ret
        exact ⟨rfl, hB.alloc hB.size _⟩
      · have h70' : ¬ (70 : Int) < (gl.length : Int) := by omega
        go_wp2_with fail
        have hq0 := Blk.new wr [.int .i64 t, .slice ga gl.length gcap, .bool is] 64
        have hsp2 := hsp.alloc (.cells [.int .i64 t, .slice ga gl.length gcap, .bool is].toArray 64)
        have hu2 := hu.alloc (.cells [.int .i64 t, .slice ga gl.length gcap, .bool is].toArray 64)
        have hB2 := hB.alloc hB.size (.cells [.int .i64 t, .slice ga gl.length gcap, .bool is].toArray 64)
        have hg2 := hg.ob ((Below.refl _ wr).alloc (Nat.le_refl _) (.cells [.int .i64 t, .slice ga gl.length gcap, .bool is].toArray 64)) (Nat.le_refl _)
        have hqp : wr.heap.size ≠ p := by have := hsp.head.lt; omega
        have hqr : wr.heap.size ≠ r := by have := hsp.row.lt; omega
        have hqu : wr.heap.size ≠ u := by have := hu.lt; omega
        have hqB : w.heap.size ≤ wr.heap.size := hB.size
        have eW : wr.alloc (.cells [.int .i64 t, .slice ga gl.length gcap, .bool is].toArray 64) = wr.alloc (.cells #[.int .i64 t, .slice ga gl.length gcap, .bool is] 64) := rfl
        rw [eW] at hq0 hsp2 hu2 hB2 hg2
        clear eW hg hu hsp henvr hhr c0 c1 c2 hB
        generalize wr.alloc _ = W at *
        generalize wr.heap.size = q at *
        clear wr
        go_loop [13, 14] (fun f i => ∃ j : Nat, j ≤ n ∧ f = .int .i64 (freeTo us j : Nat) ∧ i = .int .i64 (j : Int)) (fun _ i => n - (intOf i).toNat)
        case atStart => exact ⟨0, by omega, rfl, rfl⟩
        case round =>
          obtain ⟨j, hj, rfl, rfl⟩ := hrel
          have hfl := freeTo_le us j
          by_cases hjn : j < n
          · have hjl : j < us.length := by omega
            have e1 := hu2.cell (i := j) (v := .bool us[j]) (by simp [List.getElem?_eq_getElem hjl])
            have hgd : us.getD j true = us[j] := by rw [List.getD_eq_getElem?_getD, List.getElem?_eq_getElem hjl]; rfl
            have hjn' : (j : Int) < (n : Int) := by omega
            cases hb : us[j]
            · rw [hb] at e1 hgd
              have hF : freeTo us (j + 1) = freeTo us j + 1 := by show freeTo us j + (if us.getD j true = false then 1 else 0) = _; rw [hgd]; rfl
              have HF := hidd hF
              clear hF hgd hb
              go_wp2_with fail
              go_round
              case rel => exact ⟨j + 1, by omega, by rw [HF.out]; go_num, by go_num⟩
              case measure => simp [intOf]; omega
            · rw [hb] at e1 hgd
              have hF : freeTo us (j + 1) = freeTo us j := by show freeTo us j + (if us.getD j true = false then 1 else 0) = _; rw [hgd]; rfl
              have HF := hidd hF
              clear hF hgd hb
              go_wp2_with fail
              go_round
              case rel => exact ⟨j + 1, by omega, by rw [HF.out], by go_num⟩
              case measure => simp [intOf]; omega
          · obtain rfl : n = j := by omega
            have cq0 := hq0.cell (i := 0) (v := .int .i64 t) rfl
            have cq1 := hq0.cell (i := 1) (v := .slice ga gl.length gcap) rfl
            have cq2 := hq0.cell (i := 2) (v := .bool is) rfl
            cases is
            · as_aux_lemma =>
              go_wp2_with fail
              go_loop [20, 21] (fun e i => ∃ j : Nat, j ≤ gl.length ∧ e = .int .i64 (eB n gl j) ∧ i = .int .i64 (j : Int)) (fun _ i => gl.length - (intOf i).toNat)
              case atStart => exact ⟨0, by omega, rfl, rfl⟩
              case round =>
                obtain ⟨j, hj, rfl, rfl⟩ := hrel
                by_cases hjl : j < gl.length
                · obtain ⟨gb, goff, rfl, -, hcl, hcx⟩ := hg2.at1 hjl
                  rw [show (icells gl)[j] = .int .i64 gl[j] by simp [icells]] at hcx
                  have q3 : (0 : Int) ≤ (j : Int) := by omega
                  have q4 : (j : Int) < (gl.length : Int) := by omega
                  by_cases hx0 : gl[j] < 0
                  · have H1 := hidd (eB_bad (n := n) hjl (by unfold badK; simp [hx0]))
                    generalize gl[j] = x at *
                    go_wp2_with fail
                    go_round
                    case rel => exact ⟨j + 1, by omega, by rw [H1.out], by go_num⟩
                    case measure => simp [intOf]; omega
                  · by_cases hxn : (n : Int) ≤ gl[j]
                    · have H1 := hidd (eB_bad (n := n) hjl (by unfold badK; simp [hxn]))
                      generalize gl[j] = x at *
                      go_wp2_with fail
                      go_round
                      case rel => exact ⟨j + 1, by omega, by rw [H1.out], by go_num⟩
                      case measure => simp [intOf]; omega
                    · have H1 := hidd (eB_good (n := n) hjl (by unfold badK; simp [hx0, hxn]))
                      generalize gl[j] = x at *
                      generalize eB n gl j = ej at *
                      go_wp2_with fail
                      go_round
                      case rel => exact ⟨j + 1, by omega, by rw [H1.out], by go_num⟩
                      case measure => simp [intOf]; omega
                · obtain rfl : gl.length = j := by omega
                  by_cases hbad : gl.any (badK n) = true
                  · as_aux_lemma =>
                    have he : eB n gl gl.length = 2 := by unfold eB; rw [List.take_length]; simp [hbad]
                    have hpos : 0 < gl.length := by
                      cases gl with
                      | nil => simp at hbad
                      | cons _ _ => simp
                    have hpos' : (0 : Int) < (gl.length : Int) := by omega
                    have henvW := henv.ob hB2
                    rw [he]
                    clear he
                    go_wp2_with fail
                    go_loop [20, 22] (fun e i => e = .int .i64 2 ∧ i = .int .i64 0) (fun _ _ => 0)
                    case atStart => exact ⟨rfl, rfl⟩
                    case round =>
                      obtain ⟨rfl, rfl⟩ := hrel
                      go_wp2_with fail
                      refine (ownInts_any _ gl W hg2 (by omega)).mono ?_
                      rintro e w3 ⟨oa, oc, rfl, ho, hb3⟩
                      have hsp3 := hsp2.ob hb3 (Nat.le_refl _)
                      have hu3 := hu2.below hb3 hu2.lt
                      have hq3 := hq0.below hb3 hq0.lt
                      have hB3 := hB2.trans (hb3.mono hB2.size)
                      have hos := ho.sl
                      have henv3 := henv.ob hB3
                      clear cq0 cq1 cq2 hsp2 hu2 hq0 hB2 hb3 henvW ho hg2
                      go_wp2_with fail
                      refine (give_bound E p r us _ gl w3 hsp3 hos (by rw [hus]; exact hbad) _ _ henv3 (by decide)).mono ?_
                      rintro e w4 ⟨rfl, hb4⟩
                      have hsp4 := hsp3.ob hb4 (Nat.le_refl _)
                      have hu4 := hu3.below hb4 hu3.lt
                      have hq4 := hq3.below hb4 hq3.lt
                      have hB4 := hB3.trans (hb4.mono hB3.size)
                      clear hsp3 hu3 hq3 hB3 hb4 hos henv3
                      unfold erv
                      go_wp2_with fail
                      refine (coded2 E w.heap.size w4 (henv.ob hB4) (hh.below hB4 (Nat.le_refl _)) (.iface 113 (.pointer (some (E 1)))) 2 (.inr ⟨1, by omega, rfl, rfl⟩) 2).mono ?_
                      rintro e w5 ⟨rfl, hb5⟩
                      have z : decide (((2 : Nat) : Int) = 2) = true := rfl
                      rw [z]
                      have hsp5 := hsp4.ob hb5 (Nat.le_refl _)
                      have hu5 := hu4.below hb5 hu4.lt
                      have hq5 := hq4.below hb5 hq4.lt
                      have hB5 := hB4.trans (hb5.mono hB4.size)
                      have cq1 := hq5.cell (i := 1) (v := .slice ga gl.length gcap) rfl
                      clear hsp4 hu4 hq4 hB4 hb5 z
                      go_wp2_with fail
                      go_loop [24] (fun i => i = .int .i64 0) (fun _ => 0)
                      case atStart => exact rfl
                      case round =>
                        subst hrel
                        go_wp2_with fail
                        go_roundw
                        case rel => exact ⟨k + 1, us, by omega, by go_num, hus, hsp5, hu5, hB5⟩
                        case measure => simp [intOf]; omega
                  · as_aux_lemma =>
                    have hbad' : gl.any (badK n) = false := by simpa using hbad
                    have he : eB n gl gl.length = 0 := by unfold eB; rw [List.take_length]; simp [hbad']
                    have HBAD := hidd hbad'
                    rw [he]
                    clear he hbad hbad'
                    go_wp2_with fail
                    go_loopw [20, 22] (fun e i wr => ∃ j : Nat, j ≤ gl.length ∧ i = .int .i64 (j : Int) ∧ Below W.heap.size W wr ∧ GvR us gl j e) (fun _ i _ => gl.length - (intOf i).toNat)
                    case atStart => exact ⟨0, by omega, rfl, Below.refl _ _, .inl ⟨rfl, fun i hi => by omega⟩⟩
                    case round =>
                      obtain ⟨j, hj, rfl, hbj, hgv⟩ := hrel
                      have hq3 := hq0.below hbj hq0.lt
                      have hu3 := hu2.below hbj hu2.lt
                      have hg3 := hg2.ob hbj (Nat.le_refl _)
                      have hsp3 := hsp2.ob hbj (Nat.le_refl _)
                      have hB3 := hB2.trans (hbj.mono hB2.size)
                      clear cq0 cq1 cq2
                      have cq1 := hq3.cell (i := 1) (v := .slice ga gl.length gcap) rfl
                      generalize hWj : wr = W0 at *
                      clear hWj
                      rcases hgv with ⟨rfl, hok⟩ | ⟨rfl, j0, hj0, hok0, hno⟩
                      · as_aux_lemma =>
                        by_cases hjl : j < gl.length
                        · obtain ⟨gb, goff, rfl, hgbl⟩ : ∃ gb goff, ga = some ⟨gb, goff, none⟩ ∧ gb < w.heap.size := by
                            obtain ⟨gb, goff, rfl, x, -⟩ := hgw.at1 hjl
                            exact ⟨gb, goff, rfl, x⟩
                          have hcx := at1c hg3 hjl
                          obtain ⟨hr0, hr1⟩ := badK_lt HBAD.out hjl
                          have hge : gl.getD j 0 = gl[j] := by rw [List.getD_eq_getElem?_getD, List.getElem?_eq_getElem hjl, Option.getD_some]
                          have hcu := hu3.cell (i := gl[j].toNat) (v := .bool (us.getD gl[j].toNat false)) (by rw [List.getElem?_map, getD_some (d := false) (by omega)]; rfl)
                          have q3 : (0 : Int) ≤ (j : Int) := by omega
                          have q4 : (j : Int) < (gl.length : Int) := by omega
                          have hst := gv_step hok hjl
                          have HST := hidd hst
                          have HGE := hidd hge
                          clear hst hok
                          have hE0 : e6 us gl j 0 = if us.getD gl[j].toNat false = false then 6 else 0 := by rw [e6_start, hge]
                          cases hub : us.getD gl[j].toNat false
                          all_goals
                            rw [hub] at hcu hE0
                            have HE0 := hidd hE0
                            clear hE0 hge
                            have hcx0 := hcx
                            generalize hy : gl[j] = y at hcx hr0 hr1 hcu
                            have HY := hidd hy
                            clear hy hub hcx0
                            go_wp2_with fail
                            go_loopw [20, 23] (fun e i wr => ∃ m : Nat, m ≤ j ∧ i = .int .i64 (m : Int) ∧ e = .int .i64 (e6 us gl j m) ∧ Below W0.heap.size W0 wr) (fun _ i _ => j - (intOf i).toNat)
                            case atStart => exact ⟨0, by omega, rfl, by rw [HE0.out]; rfl, Below.refl _ _⟩
                            case round =>
                              obtain ⟨m, hm, rfl, rfl, hbm⟩ := hrel
                              have hq4 := hq3.below hbm hq3.lt
                              have hg4 := hg3.ob hbm (Nat.le_refl _)
                              clear cq1 hcx hcu
                              have cq1 := hq4.cell (i := 1) (v := .slice (some ⟨gb, goff, none⟩) gl.length gcap) rfl
                              by_cases hmj : m < j
                              · have hml : m < gl.length := by omega
                                have hc1 := at1c hg4 hml
                                have hc2 := at1c hg4 hjl
                                rw [HY.out] at hc2
                                have q5 : (0 : Int) ≤ (m : Int) := by omega
                                have q6 : (m : Int) < (gl.length : Int) := by omega
                                have q7 : (m : Int) < (j : Int) := by omega
                                by_cases hxy : gl[m] = y
                                · have H6 := hidd (e6_hit (us := us) (k := j) hml (by rw [HGE.out, HY.out, hxy]))
                                  have hxe : (gl[m] == y) = true := by simp [hxy]
                                  clear hxy
                                  generalize gl[m] = x at *
                                  generalize e6 us gl j m = ej at *
                                  go_wp2_with fail
                                  go_quiet (fail)
                                  go_wp2_with fail
                                  go_roundw
                                  case rel => exact ⟨m + 1, by omega, by go_num, by rw [H6.out], by first | exact hbm | exact hbm.drew | exact hbm.trans (Below.drewN _ _ _)⟩
                                  case measure => simp [intOf]; omega
                                · have H6 := hidd (e6_miss (us := us) (k := j) hml (by rw [HGE.out, HY.out]; exact hxy))
                                  have hxe : (gl[m] == y) = false := by simp [hxy]
                                  clear hxy
                                  generalize gl[m] = x at *
                                  generalize e6 us gl j m = ej at *
                                  go_wp2_with fail
                                  go_quiet (fail)
                                  go_wp2_with fail
                                  go_roundw
                                  case rel => exact ⟨m + 1, by omega, by go_num, by rw [H6.out], by first | exact hbm | exact hbm.drew | exact hbm.trans (Below.drewN _ _ _)⟩
                                  case measure => simp [intOf]; omega
                              · obtain rfl : j = m := by omega
                                go_wp2_with fail
                                go_roundw
                                case rel => exact ⟨j + 1, by omega, by go_num, hbj.trans (hbm.mono hbj.size), HST.out⟩
                                case measure => simp [intOf]; omega
                        · as_aux_lemma =>
                          obtain rfl : gl.length = j := by omega
                          have HOK := hidd hok
                          clear hok
                          go_wp2_with fail
                          refine (ownInts_any _ gl W0 hg3 (by omega)).mono ?_
                          rintro e w3 ⟨oa, oc, rfl, ho, hb3⟩
                          have hsp4 := hsp3.ob hb3 (Nat.le_refl _)
                          have hu4 := hu3.below hb3 hu3.lt
                          have hq4 := hq3.below hb3 hq3.lt
                          have hg4 := hg3.ob hb3 (Nat.le_refl _)
                          have hB4 := hB3.trans (hb3.mono hB3.size)
                          have hos := ho.sl
                          have hor : (Value.slice oa gl.length oc).ownBlock ≠ some r := fun e => by
                            have := (ho.blk r e).1
                            have := hsp3.row.lt
                            omega
                          have hou : u ≠ r := hur
                          clear hsp3 hu3 hq3 hB3 hb3 ho hg3 cq1
                          go_wp2_with fail
                          refine (give_ok p r us _ gl w3 hsp4 hos hor (by rw [hus]; exact HBAD.out) HOK.out).mono ?_
                          rintro e w4 ⟨rfl, hsp5, hf4⟩
                          have hu5 := hu4.fr hf4 hur
                          have hq5 := hq4.fr hf4 hqr
                          have hB5 : Below w.heap.size w w4 := hB4.trans (hf4.below hB4.size (fun i h => by subst h; exact hbr))
                          clear hsp4 hu4 hq4 hB4 hos hor hf4 hg4
                          go_wp2_with fail
                          refine (coded2 E w.heap.size w4 (henv.ob hB5) (hh.below hB5 (Nat.le_refl _)) .nilIface 0 (.inl ⟨rfl, rfl⟩) 0).mono ?_
                          rintro e w5 ⟨rfl, hb5⟩
                          have z : decide (((0 : Nat) : Int) = 0) = true := rfl
                          rw [z]
                          have hsp6 := hsp5.ob hb5 (Nat.le_refl _)
                          have hu6 := hu5.below hb5 hu5.lt
                          have hq6 := hq5.below hb5 hq5.lt
                          have hB6 := hB5.trans (hb5.mono hB5.size)
                          clear hsp5 hu5 hq5 hB5 hb5 z
                          have cq1 := hq6.cell (i := 1) (v := .slice ga gl.length gcap) rfl
                          go_wp2_with fail
                          go_loopw [24] (fun i wr => ∃ m : Nat, m ≤ gl.length ∧ i = .int .i64 (m : Int) ∧ Blk wr u ((giv us ((gl.take m).map Int.toNat)).map Value.bool) 4 ∧ Fr (fun b => b = u) w5 wr) (fun i _ => gl.length - (intOf i).toNat)
                          case atStart => exact ⟨0, by omega, rfl, by simpa [giv] using hu6, Fr.refl _ _⟩
                          case round =>
                            obtain ⟨m, hm, rfl, hum, hfm⟩ := hrel
                            have hq7 := hq6.fr hfm hqu
                            clear cq1
                            have cq1 := hq7.cell (i := 1) (v := .slice ga gl.length gcap) rfl
                            by_cases hml : m < gl.length
                            · obtain ⟨gb, goff, rfl, hgbl⟩ : ∃ gb goff, ga = some ⟨gb, goff, none⟩ ∧ gb < w.heap.size := by
                                obtain ⟨gb, goff, rfl, x, -⟩ := hgw.at1 hml
                                exact ⟨gb, goff, rfl, x⟩
                              have hgm : Sl wr (.slice (some ⟨gb, goff, none⟩) gl.length gcap) (icells gl) gl.length 1 := (hgw.ob hB6 (Nat.le_refl _)).fr hfm (fun k' hk' e => by simp [Value.ownBlock] at hk'; omega)
                              have hcx := at1c hgm hml
                              obtain ⟨hr0, hr1⟩ := badK_lt HBAD.out hml
                              have hl2 := giv_len ((gl.take m).map Int.toNat) us
                              have hcu := hum.cell (i := gl[m].toNat) (v := .bool ((giv us ((gl.take m).map Int.toNat)).getD gl[m].toNat false)) (by rw [List.getElem?_map, getD_some (d := false) (by omega)]; rfl)
                              have hfz := hum.frozen gl[m].toNat
                              have hset := hum.set gl[m].toNat (.bool false)
                              rw [← List.map_set, ← giv_snoc, ← List.map_singleton (f := Int.toNat), ← List.map_append, ← List.take_succ_eq_append_getElem hml] at hset
                              have hm1 : m + 1 ≤ gl.length := hml
                              have q5 : (0 : Int) ≤ (m : Int) := by omega
                              have q6 : (m : Int) < (gl.length : Int) := by omega
                              clear hgm hum hl2
                              generalize gl[m] = y at *
                              generalize (giv us ((gl.take m).map Int.toNat)).getD y.toNat false = vv at *
                              generalize hU3 : giv us ((gl.take (m + 1)).map Int.toNat) = us3 at *
                              have HU := hidd hU3
                              clear hU3
                              go_wp2_with fail
                              go_roundw
                              case rel => exact ⟨m + 1, by omega, by go_num, by rw [HU.out]; exact hset, hfm.setCell (p := ⟨u, y.toNat, none⟩) (.inl rfl) _⟩
                              case measure => simp [intOf]; omega
                            · obtain rfl : gl.length = m := by omega
                              rw [List.take_of_length_le (Nat.le_refl _)] at hum
                              have hl3 := giv_len (gl.map Int.toNat) us
                              have hsp7 := hsp6.fr hfm (fun e => hup e.symm) (fun e => hur e.symm)
                              have hB7 : Below w.heap.size w wr := hB6.trans (hfm.below hB6.size (fun i h => by subst h; exact hbu))
                              generalize hU3 : giv us (gl.map Int.toNat) = us3 at *
                              have HU := hidd hU3
                              clear hU3 hsp6 hu6 hq6 hB6 hfm
                              have HL3 := hidd (hl3.trans hus)
                              clear hl3
                              go_wp2_with fail
                              go_roundw
                              case rel => exact ⟨k + 1, us3, by omega, by go_num, HL3.out, hsp7, hum, hB7⟩
                              case measure => simp [intOf]; omega
                      · as_aux_lemma =>
                        have hpos : 0 < gl.length := by omega
                        have hpos' : (0 : Int) < (gl.length : Int) := by omega
                        have HOK := hidd hok0
                        have HNO := hidd hno
                        clear hok0 hno
                        by_cases hjl : (j : Int) < (gl.length : Int)
                        all_goals
                          go_wp2_with fail
                          refine (ownInts_any _ gl W0 hg3 (by omega)).mono ?_
                          rintro e w3 ⟨oa, oc, rfl, ho, hb3⟩
                          have hsp4 := hsp3.ob hb3 (Nat.le_refl _)
                          have hu4 := hu3.below hb3 hu3.lt
                          have hq4 := hq3.below hb3 hq3.lt
                          have hB4 := hB3.trans (hb3.mono hB3.size)
                          have hos := ho.sl
                          have henv3 := henv.ob hB4
                          clear hsp3 hu3 hq3 hB3 hb3 ho hg3 cq1
                          go_wp2_with fail
                          refine (give_none E p r us _ gl w3 hsp4 hos (by rw [hus]; exact HBAD.out) j0 hj0 HOK.out HNO.out _ _ henv3 (by decide)).mono ?_
                          rintro e w4 ⟨rfl, hb4⟩
                          have hsp5 := hsp4.ob hb4 (Nat.le_refl _)
                          have hu5 := hu4.below hb4 hu4.lt
                          have hq5 := hq4.below hb4 hq4.lt
                          have hB5 := hB4.trans (hb4.mono hB4.size)
                          clear hsp4 hu4 hq4 hB4 hb4 hos henv3
                          unfold erv
                          go_wp2_with fail
                          refine (coded2 E w.heap.size w4 (henv.ob hB5) (hh.below hB5 (Nat.le_refl _)) (.iface 113 (.pointer (some (E 5)))) 6 (.inr ⟨5, by omega, rfl, rfl⟩) 6).mono ?_
                          rintro e w5 ⟨rfl, hb5⟩
                          have z : decide (((6 : Nat) : Int) = 6) = true := rfl
                          rw [z]
                          have hsp6 := hsp5.ob hb5 (Nat.le_refl _)
                          have hu6 := hu5.below hb5 hu5.lt
                          have hq6 := hq5.below hb5 hq5.lt
                          have hB6 := hB5.trans (hb5.mono hB5.size)
                          have cq1 := hq6.cell (i := 1) (v := .slice ga gl.length gcap) rfl
                          clear hsp5 hu5 hq5 hB5 hb5 z
                          go_wp2_with fail
                          go_loop [24] (fun i => i = .int .i64 0) (fun _ => 0)
                          case atStart => exact rfl
                          case round =>
                            subst hrel
                            go_wp2_with fail
                            go_roundw
                            case rel => exact ⟨k + 1, us, by omega, by go_num, hus, hsp6, hu6, hB6⟩
                            case measure => simp [intOf]; omega
            · as_aux_lemma =>
              have henvW := henv.ob hB2
              have hnfr : freeTo us n = nfree us := by rw [nfree_eq, hus]
              rw [hnfr]
              have hnf60 : nfree us ≤ 60 := by rw [← hnfr]; exact Nat.le_trans (freeTo_le us n) hn2
              have cq0W := cq0
              go_wp2_with fail
              clear cq0 cq1 cq2 hnfr hfl
              by_cases ht : t < 0
              · as_aux_lemma =>
                have hfl := ht
                refine (take_neg E (.pointer (some ⟨p, 0, none⟩)) t ht W (henvW.cell _ (by decide))).mono ?_
                rintro e w3 ⟨rfl, hb3⟩
                have hsp3 := hsp2.ob hb3 (Nat.le_refl _)
                have hu3 := hu2.below hb3 hu2.lt
                have hq3 := hq0.below hb3 hq0.lt
                have hB3 := hB2.trans (hb3.mono hB2.size)
                have cq0 := hq3.cell (i := 0) (v := .int .i64 t) rfl
                have henv3 := henv.ob hB3
                have hh3 := hh.below hB3 (Nat.le_refl _)
                clear hsp2 hu2 hq0 hB2 hb3 henvW cq0W
                unfold erv
                go_wp2_with fail
                go_loop [18, 19] (fun x i => x = .slice none 0 0 ∧ i = .int .i64 0) (fun _ _ => 0)
                case atStart => exact ⟨rfl, rfl⟩
                case round =>
                  obtain ⟨rfl, rfl⟩ := hrel
                  go_wp2_with fail
                  refine (coded2 E w.heap.size w3 henv3 hh3 (.iface 113 (.pointer (some (E 1)))) 2 (.inr ⟨1, by omega, rfl, rfl⟩) 2).mono ?_
                  rintro e w4 ⟨rfl, hb4⟩
                  have z : decide (((2 : Nat) : Int) = 2) = true := rfl
                  rw [z]
                  have hsp4 := hsp3.ob hb4 (Nat.le_refl _)
                  have hu4 := hu3.below hb4 hu3.lt
                  have hB4 := hB3.trans (hb4.mono hB3.size)
                  clear hsp3 hu3 hB3 hb4 z hq3 cq0 henv3 hh3
                  go_wp2_with fail
                  refine (sameInts_any _ _ [] [] w4 (Sl.nil _ _) (Sl.nil _ _)).mono ?_
                  rintro e w5 ⟨rfl, hb5⟩
                  have hsp5 := hsp4.ob hb5 (Nat.le_refl _)
                  have hu5 := hu4.below hb5 hu4.lt
                  have hB5 := hB4.trans (hb5.mono hB4.size)
                  have z : decide (([] : List Int) = []) = true := rfl
                  rw [z]
                  clear hsp4 hu4 hB4 hb5 z
                  go_wp2_with fail
                  go_roundw
                  case rel => exact ⟨k + 1, us, by omega, by go_num, hus, hsp5, hu5, hB5⟩
                  case measure => simp [intOf]; omega
              · as_aux_lemma =>
                by_cases hfl : ((nfree us : Nat) : Int) < t
                · as_aux_lemma =>
                  have ht0 : 0 ≤ t := by omega
                  refine (take_full E p r us t W hsp2 (by omega) hfl _ _ henvW (by decide)).mono ?_
                  rintro e w3 ⟨rfl, hb3⟩
                  have hsp3 := hsp2.ob hb3 (Nat.le_refl _)
                  have hu3 := hu2.below hb3 hu2.lt
                  have hq3 := hq0.below hb3 hq0.lt
                  have hB3 := hB2.trans (hb3.mono hB2.size)
                  have cq0 := hq3.cell (i := 0) (v := .int .i64 t) rfl
                  have henv3 := henv.ob hB3
                  have hh3 := hh.below hB3 (Nat.le_refl _)
                  clear hsp2 hu2 hq0 hB2 hb3 henvW cq0W
                  unfold erv
                  go_wp2_with fail
                  go_loop [18, 19] (fun x i => x = .slice none 0 0 ∧ i = .int .i64 0) (fun _ _ => 0)
                  case atStart => exact ⟨rfl, rfl⟩
                  case round =>
                    obtain ⟨rfl, rfl⟩ := hrel
                    go_wp2_with fail
                    refine (coded2 E w.heap.size w3 henv3 hh3 (.iface 113 (.pointer (some (E 7)))) 8 (.inr ⟨7, by omega, rfl, rfl⟩) 8).mono ?_
                    rintro e w4 ⟨rfl, hb4⟩
                    have z : decide (((8 : Nat) : Int) = 8) = true := rfl
                    rw [z]
                    have hsp4 := hsp3.ob hb4 (Nat.le_refl _)
                    have hu4 := hu3.below hb4 hu3.lt
                    have hB4 := hB3.trans (hb4.mono hB3.size)
                    clear hsp3 hu3 hB3 hb4 z hq3 cq0 henv3 hh3
                    go_wp2_with fail
                    refine (sameInts_any _ _ [] [] w4 (Sl.nil _ _) (Sl.nil _ _)).mono ?_
                    rintro e w5 ⟨rfl, hb5⟩
                    have hsp5 := hsp4.ob hb5 (Nat.le_refl _)
                    have hu5 := hu4.below hb5 hu4.lt
                    have hB5 := hB4.trans (hb5.mono hB4.size)
                    have z : decide (([] : List Int) = []) = true := rfl
                    rw [z]
                    clear hsp4 hu4 hB4 hb5 z
                    go_wp2_with fail
                    go_roundw
                    case rel => exact ⟨k + 1, us, by omega, by go_num, hus, hsp5, hu5, hB5⟩
                    case measure => simp [intOf]; omega
                · as_aux_lemma =>
                  obtain ⟨m, rfl⟩ := Int.eq_ofNat_of_zero_le (show 0 ≤ t by omega)
                  have hm : m ≤ nfree us := by omega
                  clear ht hfl
                  refine (take_ok p r us m W hsp2 hm).mono ?_
                  rintro e w3 ⟨xa, xc, rfl, hx, hsp3, hf3⟩
                  rw [hus] at hx hsp3
                  have hu3 : Blk w3 u (us.map Value.bool) 4 := hu2.fr hf3 hur
                  have hq3 := hq0.fr hf3 hqr
                  have hB3 : Below w.heap.size w w3 := hB2.trans (hf3.below hB2.size (fun i h => by subst h; exact hbr))
                  have hxs : Sl w3 (.slice xa m xc) (ints (tk us m n).1) m 1 := Sl.of_owns hx
                  have hu2lt := hu2.lt
                  have hxu : ∀ b, (Value.slice xa m xc).ownBlock = some b → ¬ b = u := fun b e h => by have := (hx.lt b e).1; omega
                  clear hsp2 hu2 hq0 hB2 hf3 henvW cq0W hx
                  have hu3lt := hu3.lt
                  have hq3lt := hq3.lt
                  have hsp3p := hsp3.head.lt
                  have hsp3r := hsp3.row.lt
                  have hm1 : m ≤ 60 := by omega
                  have cq0 := hq3.cell (i := 0) (v := .int .i64 (m : Int)) rfl
                  have hd0 : decide ((m : Int) < 0) = false := by simp
                  have hd1 : decide (nfree us < m) = false := by simp; omega
                  have hd2 : decide (((nfree us : Nat) : Int) < (m : Int)) = false := by simp; omega
                  obtain ⟨i0, hi, hz0, hz1, hz2⟩ := info_parts infoI
                  go_wp2_with fail
                  clear cq0
                  go_loopw [18, 19] (fun v i wr => ∃ j : Nat, j ≤ n ∧ i = .int .i64 (j : Int) ∧ wr.ownsRow w3.heap.size 3 1 v (tk us m j).1.length (ints (tk us m j).1) ∧ Blk wr u ((tk us m j).2.map Value.bool) 4 ∧ Fr (fun b => b = u) w3 wr) (fun _ i _ => n - (intOf i).toNat)
                  case atStart => exact ⟨0, by omega, rfl, by simpa [tk, ints] using World.ownsRow_nil w3 w3.heap.size 3 1, hu3, Fr.refl _ _⟩
                  case round =>
                    obtain ⟨j, hj, rfl, hown, hub, hfr⟩ := hrel
                    obtain ⟨ad, acap, rfl⟩ := owns_slice hown
                    have hle : (tk us m j).1.length ≤ m := by rw [tk_len]; omega
                    have hl2 := tk_len2 us m j
                    have hq4 := hq3.fr hfr hqu
                    have cq0 := hq4.cell (i := 0) (v := .int .i64 (m : Int)) rfl
                    by_cases hl : (tk us m j).1.length < m
                    · have hlt := tk_stop hm hl
                      rw [hus] at hlt
                      have hge := tk_ge us m j j true (Nat.le_refl _)
                      have hcell := hub.cell (i := j) (v := .bool ((tk us m j).2.getD j true)) (by rw [List.getElem?_map, getD_some (d := true) (by omega)]; rfl)
                      have hfz := hub.frozen j
                      rw [hge] at hcell
                      have hl1 : (((tk us m j).1.length : Nat) : Int) < (m : Int) := by omega
                      have hjn : (j : Int) < (n : Int) := by omega
                      cases hb : us.getD j true
                      · have H1 := hidd (tk_succ_y hl hb)
                        have hcx : ((tk us m j).2.map Value.bool)[j]? = some (.bool false) := by rw [List.getElem?_map, getD_some (d := true) (by omega), hge, hb]; rfl
                        rw [hb] at hcell
                        have hsz := hfr.size
                        generalize (tk us m j).1 = t1 at *
                        generalize (tk us m j).2 = t2 at *
                        clear hb hge hsp3 hu3 hq3 hxs hq4
                        go_wp2_with (at_builtin; refine wpList_append_own _ rfl _ _ 22 rfl w3.heap.size 3 i0 (.int .i64 0) 1 8 Tryd.underlying22 hi hz0 hz1 hz2 rfl (by decide) _ _ _ rfl (hown.alloc _) ⟨wr.heap.size, 0, none⟩ 1 1 [.int .i64 j] rfl rfl ?c1 ?c2 ?c3 ?c4 ?c5 ?_)
                        case c1 => exact cell_one_new' _ _ _
                        case c2 => simp [Value.oneCell']
                        case c3 => unfold maxLen; omega
                        case c4 => omega
                        case c5 => simp; omega
                        intro v' w4 hown' hgrow _
                        have hu4 : Blk w4 u (t2.map Value.bool) 4 := (hub.alloc _).grown hgrow (fun e => by have := (hown.lt u e.symm).1; omega)
                        have hcell4 := hu4.cell hcx
                        have hfz4 := hu4.frozen j
                        have hfr4 : Fr (fun b => b = u) w3 w4 := (hfr.alloc _).grown hgrow (fun b hb => .inr (hown.lt b hb).1)
                        have hown4 := owns_set hown' (a := ⟨u, j, none⟩) (by simpa using hu3lt) (.bool true)
                        have hset := hu4.set j (.bool true)
                        clear hown hub hcell hfz cq0 hu4 hown' hgrow
                        go_wp2_with fail
                        go_roundw
                        case rel => exact ⟨j+1, by omega, by go_num, by rw [H1.out]; simpa [ints_snoc] using hown4, by rw [H1.out]; simpa [List.map_set] using hset, hfr4.setCell (p := ⟨u, j, none⟩) (.inl rfl) _⟩
                        case measure => simp [intOf]; omega
                      · have H1 := hidd (tk_succ_n (k := m) (i := j) (us := us) (by rw [hb]; decide))
                        rw [hb] at hcell
                        clear hb hge
                        generalize hT : tk us m j = T at *
                        clear hT
                        go_wp2_with fail
                        go_roundw
                        case rel => exact ⟨j+1, by omega, by go_num, by rw [H1.out]; exact hown, by rw [H1.out]; exact hub, hfr⟩
                        case measure => simp [intOf]; omega
                    · have hd := tk_done hl (n - j)
                      rw [show j + (n - j) = n by omega] at hd
                      have hk2 : (tk us m j).1.length = m := by omega
                      rw [← hd] at hown hub hk2 ⊢
                      clear hd hl hle hl2
                      have hl2 := tk_len2 us m n
                      generalize (tk us m n).1 = t1 at *
                      generalize (tk us m n).2 = t2 at *
                      have hsp4 := hsp3.fr hfr (fun e => hup e.symm) (fun e => hur e.symm)
                      have hxs4 : Sl wr (.slice xa m xc) (ints t1) m 1 := hxs.fr hfr hxu
                      have hys4 : Sl wr (.slice ad t1.length acap) (ints t1) t1.length 1 := Sl.of_owns hown
                      have hB4 : Below w.heap.size w wr := hB3.trans (hfr.below hB3.size (fun i h => by subst h; exact hbu))
                      rw [hk2] at hys4
                      have henv4 := henv.ob hB4
                      have hh4 := hh.below hB4 (Nat.le_refl _)
                      have hlm : ¬ (m : Int) < (m : Int) := by omega
                      rw [ints_eq] at hxs4 hys4
                      have hlI : (t1.map Int.ofNat).length = m := by simp [hk2]
                      rw [hk2]
                      generalize t1.map Int.ofNat = lI at *
                      clear hsp3 hu3 hq3 hxs hown hfr hB3 hk2
                      by_cases hjn : (j : Int) < (n : Int)
                      all_goals
                        go_wp2_with fail
                        refine (coded2 E w.heap.size wr henv4 hh4 .nilIface 0 (.inl ⟨rfl, rfl⟩) 0).mono ?_
                        rintro e w5 ⟨rfl, hb5⟩
                        have z : decide (((0 : Nat) : Int) = 0) = true := rfl
                        rw [z]
                        have hsp5 := hsp4.ob hb5 (Nat.le_refl _)
                        have hu5 := hub.below hb5 hub.lt
                        have hB5 := hB4.trans (hb5.mono hB4.size)
                        have hxs5 := hxs4.ob hb5 (Nat.le_refl _)
                        have hys5 := hys4.ob hb5 (Nat.le_refl _)
                        clear hsp4 hub hB4 hb5 z hq4 cq0 henv4 hh4 hxs4 hys4
                        go_wp2_with fail
                        refine (sameInts_any _ _ lI lI w5 (by rw [hlI]; exact hxs5) (by rw [hlI]; exact hys5)).mono ?_
                        rintro e w6 ⟨rfl, hb6⟩
                        have hsp6 := hsp5.ob hb6 (Nat.le_refl _)
                        have hu6 := hu5.below hb6 hu5.lt
                        have hB6 := hB5.trans (hb6.mono hB5.size)
                        have z : decide (lI = lI) = true := by simp
                        rw [z]
                        clear hsp5 hu5 hB5 hb6 z hxs5 hys5
                        go_wp2_with fail
                        go_roundw
                        case rel => exact ⟨k + 1, t2, by omega, by go_num, by omega, hsp6, hu6, hB6⟩
                        case measure => simp [intOf]; omega
    · as_aux_lemma =>
      obtain rfl : L.length = k := by omega
      obtain ⟨i0, hi, hz0, hz1, hz2⟩ := info_parts infoI
      generalize wr = W0 at *
      have hsz0 := hB.size
      have hult := hu.lt
      go_wp2_with fail
      go_loopw [25, 26] (fun v i wr' => ∃ j : Nat, j ≤ n ∧ i = .int .i64 (j : Int) ∧ wr'.ownsRow W0.heap.size 3 1 v (usedTo us j).length (ints (usedTo us j)) ∧ Below W0.heap.size W0 wr') (fun _ i _ => n - (intOf i).toNat)
      case atStart => exact ⟨0, by omega, rfl, by simpa [usedTo, ints] using World.ownsRow_nil W0 W0.heap.size 3 1, Below.refl _ _⟩
      case round =>
        obtain ⟨j, hj, rfl, hown, hb⟩ := hrel
        have hle := usedTo_le us j
        have hu1 := hu.below hb hult
        obtain ⟨ad, acap, rfl⟩ := owns_slice hown
        by_cases hjn : j < n
        · have hjl : j < us.length := by omega
          have hgd : us.getD j false = us[j] := by rw [List.getD_eq_getElem?_getD, List.getElem?_eq_getElem hjl]; rfl
          have hcell := hu1.cell (i := j) (v := .bool us[j]) (by simp [List.getElem?_eq_getElem hjl])
          have hjn' : (j : Int) < (n : Int) := by omega
          cases hx : us[j]
          · rw [hx] at hcell hgd
            have H1 := hidd (usedTo_succ_f hgd)
            clear hx hgd
            generalize usedTo us j = t1 at *
            go_wp2_with fail
            go_roundw
            case rel => exact ⟨j+1, by omega, by go_num, by rw [H1.out]; exact hown, hb⟩
            case measure => simp [intOf]; omega
          · rw [hx] at hcell hgd
            have H1 := hidd (usedTo_succ_t hgd)
            have hsz := hb.size
            clear hx hgd
            generalize usedTo us j = t1 at *
            go_wp2_with (at_builtin; refine wpList_append_own _ rfl _ _ 22 rfl W0.heap.size 3 i0 (.int .i64 0) 1 8 Tryd.underlying22 hi hz0 hz1 hz2 rfl (by decide) _ _ _ rfl (hown.alloc _) ⟨_, 0, none⟩ 1 1 [.int .i64 j] rfl rfl ?c1 ?c2 ?c3 ?c4 ?c5 ?_)
            case c1 => exact cell_one_new' _ _ _
            case c2 => simp [Value.oneCell']
            case c3 => unfold maxLen; omega
            case c4 => omega
            case c5 => simp; omega
            intro v' w1 hown' hgrow _
            clear hcell
            go_wp2_with fail
            go_roundw
            case rel => exact ⟨j+1, by omega, by go_num, by rw [H1.out]; simpa [ints_snoc] using hown', (hb.alloc hsz _).grown hgrow (by simp; omega) (fun k hk => (hown.lt k hk).1)⟩
            case measure => simp [intOf]; omega
        · obtain rfl : n = j := by omega
          have hsp1 := hsp.ob hb (Nat.le_refl _)
          have hB1 := hB.trans (hb.mono hsz0)
          have hj0 : ¬ (n : Int) < (n : Int) := by omega
          have hwr : IntKind.i64.wrap ((n : Int) - ((usedTo us n).length : Int)) = ((nfree us : Nat) : Int) := by
            rw [i64_in _ (by omega), nfree_eq_sub us n hus]; omega
          have hwr2 : wrap64 ((n : Int) - ((usedTo us n).length : Int)) = ((nfree us : Nat) : Int) := by
            rw [nfree_eq_sub us n hus]; unfold wrap64; omega
          have hys := Sl.of_owns hown
          clear hown hsp hu hu1
          go_wp2_with fail
          refine (copy_any p r us _ hsp1).mono ?_
          rintro e w3 ⟨pc, rfl, hrd, hb3⟩
          have hsp3 := hsp1.ob hb3 (Nat.le_refl _)
          have hB3 := hB1.trans (hb3.mono hB1.size)
          have hys3 := hys.ob hb3 (Nat.le_refl _)
          clear hb hB1 hb3 hys hsp1
          go_wp2_with fail
          refine (used_any p r us _ hsp3).mono ?_
          rintro e w4 ⟨ua, uc, rfl, ho4, hb4⟩
          rw [hus] at ho4 ⊢
          have hsp4 := hsp3.ob hb4 (Nat.le_refl _)
          have hB4 := hB3.trans (hb4.mono hB3.size)
          have hys4 := hys3.ob hb4 (Nat.le_refl _)
          have hrd4 := hrd.ob hb4
          have hus4 := Sl.of_owns ho4
          clear hsp3 hys3 hrd hb4 ho4
          rw [ints_eq] at hys4 hus4
          have hlI : ((usedTo us n).map Int.ofNat).length = (usedTo us n).length := by simp
          have HLI := hidd hlI
          clear hlI
          go_wp2_with fail
          refine (sameInts_any _ _ ((usedTo us n).map Int.ofNat) ((usedTo us n).map Int.ofNat) w4 (by rw [HLI.out]; exact hus4) (by rw [HLI.out]; exact hys4)).mono ?_
          rintro e w5 ⟨rfl, hb5⟩
          rw [decide_eq_true (rfl : (usedTo us n).map Int.ofNat = (usedTo us n).map Int.ofNat)]
          have hsp5 := hsp4.ob hb5 (Nat.le_refl _)
          have hB5 := hB4.trans (hb5.mono hB4.size)
          have hys5 := hys4.ob hb5 (Nat.le_refl _)
          have hrd5 := hrd4.ob hb5
          clear hsp4 hys4 hrd4 hb5 hus4
          go_wp2_with fail
          refine (free_any p r us w5 hsp5).mono ?_
          rintro e w6 ⟨rfl, hb6⟩
          have hB6 := hB5.trans (hb6.mono hB5.size)
          have hys6 := hys5.ob hb6 (Nat.le_refl _)
          have hrd6 := hrd5.ob hb6
          clear hsp5 hys5 hrd5 hb6
          go_wp2_with fail
          refine (used_rd pc us w6 hrd6).mono ?_
          rintro e w7 ⟨va, vc, rfl, ho7, hb7⟩
          rw [hus] at ho7 ⊢
          have hB7 := hB6.trans (hb7.mono hB6.size)
          have hys7 := hys6.ob hb7 (Nat.le_refl _)
          have hus7 := Sl.of_owns ho7
          clear hys6 hrd6 hb7 ho7
          rw [ints_eq] at hus7
          go_wp2_with fail
          refine (sameInts_any _ _ ((usedTo us n).map Int.ofNat) ((usedTo us n).map Int.ofNat) w7 (by rw [HLI.out]; exact hus7) (by rw [HLI.out]; exact hys7)).mono ?_
          rintro e w8 ⟨rfl, hb8⟩
          rw [decide_eq_true (rfl : (usedTo us n).map Int.ofNat = (usedTo us n).map Int.ofNat)]
          have hB8 := hB7.trans (hb8.mono hB7.size)
          clear hys7 hus7 hb8
          go_wp2_with fail
          go_ret
          exact ⟨rfl, hB8⟩
end Go.Proofs.YtgckmlafpmnekaaDoor
