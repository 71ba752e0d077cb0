/- The closed fact of the paths' statements; stillroomlaw1.PathSplits, walked. Condition: the texts are there, the variables read as listed. -/
import Derived.Test.YtccplkbbaodpeaaDoorPaG
import Derived.Test.YtccplkbbaodpeaaDoorTrI
namespace Go.Proofs.YtccplkbbaodpeaaDoor
open Go.RowKit Go.Shelf

/-- A dir of a file, for paths. -/
def P0 (v : Value) : Lt := .mk ⟨#[100, 105, 114]⟩ ⟨#[]⟩ false v [(⟨#[97]⟩, .mk ⟨#[102, 105, 108, 101]⟩ ⟨#[120, 121]⟩ false (.slice none 0 0) [])]
theorem p0g (v : Value) : getOf (P0 v) ⟨#[47, 97]⟩ = .ok (.mk ⟨#[102, 105, 108, 101]⟩ ⟨#[120, 121]⟩ false (.slice none 0 0) []) := rfl
theorem p0ok (w : World) : (P0 (.slice (some ⟨w.heap.size, 0, none⟩) 1 1)).Ok (w.alloc (.cells #[.string ⟨#[97]⟩, .string ⟨#[102, 105, 108, 101]⟩, .string ⟨#[120, 121]⟩, .bool false, .slice none 0 0] 40)) := by
  refine Tr.Ok.mk' ?_ ?_ ?_
  · exact Sl.new w [.string ⟨#[97]⟩, .string ⟨#[102, 105, 108, 101]⟩, .string ⟨#[120, 121]⟩, .bool false, .slice none 0 0] 40 5 rfl
  · intro x hx
    simp only [P0, Tr.kids, List.mem_cons, List.not_mem_nil, or_false] at hx
    subst hx; decide
  · intro x hx
    simp only [P0, Tr.kids, List.mem_cons, List.not_mem_nil, or_false] at hx
    subst hx
    exact Tr.Ok.mk' (Sl.nil _ 5) (by intro y hy; cases hy) (by intro y hy; cases hy)

set_option maxRecDepth 100000 in
set_option maxHeartbeats 4000000 in
theorem pathed_true (E : Nat → Addr) (B : Nat) (w : World) (hE : Env trGs B w E) (hM : Ml w) :
    Calls Tryd.prog 23 #[] w fun e w' => e = .returned (.bool true) ∧ Below w.heap.size w w' := by
  have hB2 : Below w.heap.size w ((w.alloc (.cells #[.string ⟨#[97]⟩, .string ⟨#[102, 105, 108, 101]⟩, .string ⟨#[120, 121]⟩, .bool false, .slice none 0 0] 40)).alloc (.cells #[.string ⟨#[100, 105, 114]⟩, .string ⟨#[]⟩, .bool false, .slice (some ⟨w.heap.size, 0, none⟩) 1 1] 24)) := ((Below.refl _ _).alloc (Nat.le_refl _) _).alloc (by simp) _
  have ht2 := (p0ok w).alloc (.cells #[.string ⟨#[100, 105, 114]⟩, .string ⟨#[]⟩, .bool false, .slice (some ⟨w.heap.size, 0, none⟩) 1 1] 24)
  have HG := hidd (get_any E B (P0 (.slice (some ⟨w.heap.size, 0, none⟩) 1 1)) ⟨#[47, 97]⟩ _ ht2 (hE.ob hB2) (hM.ob hB2) (by decide))
  simp only [nval, P0, Tr.kind, Tr.data, Tr.exec, Tr.v] at HG
  clear ht2 hE hM
  go_enter Tryd.func23, Tryd.ntmps23
  go_wp2_with fail
  refine HG.out.mono ?_
  rintro e w3 ⟨hb3, hr⟩
  have hB3 := hB2.trans (hb3.mono hB2.size)
  rcases hr with ⟨c, hc, -⟩ | ⟨x, y, hx, -, rfl, hbr, hyo, -⟩
  · have := (p0g (.slice (some ⟨w.heap.size, 0, none⟩) 1 1)).symm.trans hc
    cases this
  · obtain rfl := Except.ok.inj ((p0g (.slice (some ⟨w.heap.size, 0, none⟩) 1 1)).symm.trans hx)
    obtain ⟨ya, yc, hyv⟩ := hyo.shape
    rw [Tr.bare_iff] at hbr
    obtain ⟨ky, dy, ey, vy, ksy⟩ := y
    simp only [Tr.kind, Tr.data, Tr.exec, Tr.v, Tr.kids] at hbr hyv
    obtain ⟨rfl, rfl, rfl, -, -⟩ := hbr
    subst hyv
    unfold nval
    simp only [Tr.kind, Tr.data, Tr.exec, Tr.v]
    have hBB := hB3.alloc hB3.size (.cells #[.string ⟨#[102, 105, 108, 101]⟩, .string ⟨#[120, 121]⟩, .bool false, .slice ya ksy.length yc] 24)
    clear hx hyo hb3 hB3 hB2 HG
    go_wp2_with fail
    go_ret
    exact ⟨rfl, hBB⟩

/-- Names joined, as a text. -/
def jt (l : List ByteArray) : ByteArray := ⟨(joined l).toArray⟩
theorem jt_data (l : List ByteArray) : (jt l).data.toList = joined l := rfl
theorem jt_nil : jt [] = ⟨#[]⟩ := rfl
theorem jt_snoc (l : List ByteArray) (x : ByteArray) : jt (l ++ [x]) = sub (jt l) x := by
  apply ba_inj
  rw [jt_data]
  unfold sub joined
  rw [List.map_append, joinL_app]
  simp [jt, joined, joinL]
theorem jt_size (l : List ByteArray) : (jt l).size = (joined l).length := rfl
theorem joined_take (l : List ByteArray) (i : Nat) : (joined (l.take i)).length ≤ (joined l).length := by
  have e : joined l = joined (l.take i) ++ joined (l.drop i) := by
    unfold joined
    rw [← joinL_app, ← List.map_append, List.take_append_drop]
  rw [e, List.length_append]; omega
theorem jt_take {l : List ByteArray} {i : Nat} (h : i < l.length) : jt (l.take (i + 1)) = sub (jt (l.take i)) l[i] := by
  rw [List.take_succ_eq_append_getElem h, jt_snoc]
theorem sub_size (p n : ByteArray) : (sub p n).size = p.size + 1 + n.size := by
  unfold sub; rw [ByteArray.size_append, ByteArray.size_append]; rfl
theorem joined_bd {l : List ByteArray} (h : ∀ x ∈ l, x.size ≤ 30) : (joined l).length ≤ 31 * l.length := by
  induction l with
  | nil => simp [joined, joinL]
  | cons x r ih =>
    have h1 := ih (fun y hy => h y (List.mem_cons_of_mem _ hy))
    have h2 := h x (List.mem_cons_self ..)
    have h3 : x.data.toList.length = x.size := by simp
    unfold joined at h1 ⊢
    simp only [List.map_cons, joinL, List.length_cons, List.length_append]
    omega

theorem one_el {L : List ByteArray} (h : L.length = 1) (h0 : 0 < L.length) (e : L[0] = ⟨#[]⟩) : L = [⟨#[]⟩] := by
  match L, h, h0, e with
  | [y], _, _, e => rw [show y = ⟨#[]⟩ from e]

set_option maxRecDepth 100000 in
set_option maxHeartbeats 40000000 in
theorem pathSplits_true (E : Nat → Addr) (B : Nat) (s : ByteArray) (v : Value) (L : List ByteArray) (w : World) (_ : s.size ≤ 9223372036854775807) (hL : Sl w v (tcells L) L.length 1) (hE : Env trGs B w E) (hM : Ml w) :
    Calls Tryd.prog 5 #[.string s, v] w fun e w' => e = .returned (.bool true) ∧ Below w.heap.size w w' := by
  obtain ⟨la, lc, rfl, -⟩ := id hL
  have hle := hL.le
  have HP := hidd (pathed_true E B w hE hM)
  have HL := hidd hL
  have HE0 := hidd hE
  have HM0 := hidd hM
  clear hL
  go_enter Tryd.func5, Tryd.ntmps5
  go_wp2_with fail
  refine HP.out.mono ?_
  rintro e w1 ⟨rfl, hb1⟩
  have HE1 := hidd (hE.ob hb1)
  have HM1 := hidd (hM.ob hb1)
  clear HP hE hM
  by_cases h200 : 200 < s.size
  · have e1 : decide ((200 : Int) < (s.size : Int)) = true := decide_eq_true (by omega)
    go_wp2_with fail
    go_ret
    exact ⟨rfl, hb1⟩
  have e1 : decide ((200 : Int) < (s.size : Int)) = false := decide_eq_false (by omega)
  by_cases h12 : 12 < L.length
  · have e2 : decide ((12 : Int) < (L.length : Int)) = true := decide_eq_true (by omega)
    go_wp2_with fail
    go_ret
    exact ⟨rfl, hb1⟩
  have e2 : decide ((12 : Int) < (L.length : Int)) = false := decide_eq_false (by omega)
  go_wp2_with fail
  refine (split_any E B s w1 HE1.out HM1.out (by omega)).mono ?_
  rintro e w2 ⟨hb2, hr⟩
  have hB2 := hb1.trans (hb2.mono hb1.size)
  obtain ⟨v1, er1, rfl, HR⟩ : ∃ v er, e = .returned (.tuple #[v, er]) ∧ Hid ((∃ l, splitOf s = some l ∧ er = .nilIface ∧ Sl w2 v (tcells l) l.length 1) ∨ (splitOf s = none ∧ v = .slice none 0 0 ∧ er = evc E 5)) := by
    rcases hr with ⟨l, v, h1, rfl, h2⟩ | ⟨h1, rfl⟩
    · exact ⟨_, _, rfl, hidd (.inl ⟨l, h1, rfl, h2⟩)⟩
    · exact ⟨_, _, rfl, hidd (.inr ⟨h1, rfl, rfl⟩)⟩
  have HE2 := hidd (HE1.out.ob hb2)
  have HM2 := hidd (HM1.out.ob hb2)
  clear hr hb2 HE1 HM1 hb1
  obtain ⟨bb, hbb⟩ : ∃ bb, (splitOf s).isSome = bb := ⟨_, rfl⟩
  have hq0 : (∀ W : World, (Go.binOp .eql 32 er1 .nilIface).run Tryd.prog W = .ok (.bool bb) W) ∧ (∀ W : World, (Go.eqGuard BinOp.eql 32 (Operand.tmp 34) (Operand.const Value.nilIface) er1 Value.nilIface).run Tryd.prog W = .ok () W) := by
    rcases HR.out with ⟨l, h1, rfl, -⟩ | ⟨h1, -, rfl⟩
    · rw [h1] at hbb
      simp only [Option.isSome_some] at hbb
      subst hbb
      exact ⟨fun W => by go_simp, fun W => by go_simp⟩
    · rw [h1] at hbb
      simp only [Option.isSome_none] at hbb
      subst hbb
      rw [evc_ne (by decide)]
      exact ⟨fun W => by go_simp, fun W => by go_simp⟩
  obtain ⟨hq1, hq2⟩ := hq0
  have HBB := hidd hbb
  clear hbb
  go_upto_if 35 with (fail)
  go_cut [8, 9] from 34 to 66 (fun _ _ wx => wx = w2)
  case first =>
    clear hq1 hq2
    rcases HR.out with ⟨l, h1, rfl, h2⟩ | ⟨h1, rfl, rfl⟩
    · obtain rfl : bb = true := by rw [← HBB.out, h1]; rfl
      obtain ⟨va, vc, rfl, -⟩ := id h2
      have hsj := splitOf_join h1
      have hjl : (joined l).length ≤ 200 := by
        rcases hsj with ⟨-, rfl⟩ | ⟨-, -, h⟩
        · simp [joined, joinL]
        · have e5 : s.data.toList.length = s.size := by simp
          rw [h]; omega
      have hln := (splitOf_names h1).1
      have HSJ := hidd hsj
      have HTK := hidd (fun i => joined_take l i)
      have HT1 := hidd (fun i (h : i < l.length) => jt_take h)
      clear hsj h1 HR HBB
      go_wp2_with fail
      go_loopw [8, 9] (fun t z wr => ∃ i : Nat, i ≤ l.length ∧ z = .int .i64 (i : Int) ∧ t = .string (jt (l.take i)) ∧ wr = w2) (fun _ z _ => l.length - (intOf z).toNat)
      case atStart => exact ⟨0, Nat.zero_le _, rfl, rfl, rfl⟩
      case round =>
        obtain ⟨i, hi, rfl, rfl, rfl⟩ := hrel
        have hpz := HTK.out i
        rw [← jt_size] at hpz
        by_cases hlt : i < l.length
        · obtain ⟨b, off, rfl, hb, hc, hcell⟩ := h2.at1 hlt
          rw [show (tcells l)[i] = .string l[i] by simp [tcells]] at hcell
          have hnx := HT1.out i hlt
          have hz2 := HTK.out (i + 1)
          rw [← jt_size, hnx, sub_size] at hz2
          have p1 : (0 : Int) ≤ (i : Int) := by omega
          have p2 : (i : Int) < (l.length : Int) := by omega
          generalize l[i] = x at *
          have HNX := hidd hnx
          obtain ⟨P, hP⟩ : ∃ P, jt (l.take i) = P := ⟨_, rfl⟩
          have HPP := hidd hP
          rw [hP] at hpz hz2 ⊢
          have r1 : ¬ (9223372036854775807 < P.size + 1) := by omega
          have r2 : ¬ (9223372036854775807 < P.size + 1 + x.size) := by omega
          clear hnx hP hz2 hpz h2
          go_wp2_with fail
          go_roundw
          case rel => exact ⟨i + 1, hlt, by go_num, by rw [HNX.out, HPP.out]; rfl, by first | rfl | trivial⟩
          case measure => simp [intOf]; omega
        · rw [List.take_of_length_le (by omega)]
          rcases HSJ.out with ⟨h3, rfl⟩ | ⟨h3, h4, h5⟩
          · have q0 : (s.toList == [47]) = true := by rw [Lib.toList_data, h3]; rfl
            rw [jt_nil]
            clear h2 hpz
            go_wp2_with fail
            go_meet
            rfl
          · have q0 : (s.toList == [47]) = false := by rw [Lib.toList_data]; simpa using h3
            rw [show jt l = s from ba_inj (by rw [jt_data]; exact h5)]
            clear h2 hpz
            go_wp2_with fail
            go_meet
            rfl
    · obtain rfl : bb = false := by rw [← HBB.out, h1]; rfl
      clear HR HBB h1
      go_wp2_with fail
      go_meet
      rfl
  case rest =>
    subst hcut
    clear hq1 hq2 HR HBB
    have hL2 := HL.out.ob hB2 (Nat.le_refl _)
    have HEW : Hid (∀ W, Below w.heap.size w W → Env trGs B W E) := hidd (fun W hb => HE0.out.ob hb)
    have HMW : Hid (∀ W, Below w.heap.size w W → Ml W) := hidd (fun W hb => HM0.out.ob hb)
    obtain ⟨w8, hw8⟩ : ∃ b, decide (L.length ≤ 8) = b := ⟨_, rfl⟩
    have hw8' : decide ((L.length : Int) ≤ 8) = w8 := by rw [← hw8]; exact decide_eq_decide.2 (by omega)
    have HW8 := hidd hw8
    go_wp2_with fail
    go_loopw [10, 11, 12] (fun t z c wr => ∃ i : Nat, i ≤ L.length ∧ c = .int .i64 (i : Int) ∧ t = .string (jt (L.take i)) ∧ z = .bool (w8 && (L.take i).all isName) ∧ Hid (∀ x ∈ L.take i, x.size ≤ 30) ∧ Below w.heap.size w wr) (fun _ _ c _ => L.length - (intOf c).toNat)
    case atStart => exact ⟨0, Nat.zero_le _, rfl, rfl, by simp, hidd (by simp), hB2⟩
    case round =>
      obtain ⟨i, hi, rfl, rfl, rfl, H30, hbel⟩ := hrel
      have hA := HL.out.ob hbel (Nat.le_refl _)
      have hpz := joined_bd H30.out
      rw [← jt_size, List.length_take] at hpz
      clear hL2 hw8' hw8
      by_cases hlt : i < L.length
      · obtain ⟨b, off, rfl, hb, hc, hcell⟩ := hA.at1 hlt
        rw [show (tcells L)[i] = .string L[i] by simp [tcells]] at hcell
        have hnx := jt_take hlt
        have hta : (L.take (i + 1)).all isName = ((L.take i).all isName && isName L[i]) := by
          rw [List.take_succ_eq_append_getElem hlt, List.all_append]; simp
        have h30n : L[i].size ≤ 30 → ∀ x ∈ L.take (i + 1), x.size ≤ 30 := fun h x hx => by
          rw [List.take_succ_eq_append_getElem hlt] at hx
          rcases List.mem_append.1 hx with h1 | h1
          · exact H30.out x h1
          · simp only [List.mem_cons, List.not_mem_nil, or_false] at h1; subst h1; exact h
        have p1 : (0 : Int) ≤ (i : Int) := by omega
        have p2 : (i : Int) < (L.length : Int) := by omega
        generalize L[i] = x at *
        have HNX := hidd hnx
        have HTA := hidd hta
        have H3N := hidd h30n
        obtain ⟨P, hP⟩ : ∃ P, jt (L.take i) = P := ⟨_, rfl⟩
        have HPP := hidd hP
        rw [hP] at hpz ⊢
        obtain ⟨bw, hbw⟩ : ∃ b, (w8 && (L.take i).all isName) = b := ⟨_, rfl⟩
        have HBW := hidd hbw
        rw [hbw]
        clear hnx hP hta h30n hA hbw
        by_cases hx : 30 < x.size
        · have e3 : decide ((30 : Int) < (x.size : Int)) = true := decide_eq_true (by omega)
          go_wp2_with fail
          go_ret
          exact ⟨rfl, hbel⟩
        have e3 : decide ((30 : Int) < (x.size : Int)) = false := decide_eq_false (by omega)
        have r1 : ¬ (9223372036854775807 < P.size + 1) := by omega
        have r2 : ¬ (9223372036854775807 < P.size + 1 + x.size) := by omega
        have HM30 := hidd (H3N.out (by omega))
        cases bw
        · clear hpz H3N
          go_wp2_with fail
          go_roundw
          case rel => exact ⟨i + 1, hlt, by go_num, by rw [HNX.out, HPP.out]; rfl, by rw [HTA.out, ← Bool.and_assoc, HBW.out]; rfl, HM30, hbel⟩
          case measure => simp [intOf]; omega
        · have HK := hidd (name_any x wr (by omega))
          obtain ⟨nm, hnm⟩ : ∃ c, isName x = c := ⟨_, rfl⟩
          have HNM := hidd hnm
          rw [hnm] at HK
          clear hpz H3N hnm
          go_wp2_with fail
          refine HK.out.mono ?_
          rintro e w5 ⟨rfl, hb5⟩
          have hB5 := hbel.trans (hb5.mono hbel.size)
          have hcell5 := (hb5.cell (p := ⟨b, _, none⟩) hb).trans hcell
          clear hb5 hcell HK
          go_wp2_with fail
          go_roundw
          case rel => exact ⟨i + 1, hlt, by go_num, by rw [HNX.out, HPP.out]; rfl, by rw [HTA.out, ← Bool.and_assoc, HBW.out, HNM.out]; rfl, HM30, hB5⟩
          case measure => simp [intOf]; omega
      · have hil : i = L.length := by omega
        rw [List.take_of_length_le (by omega)] at hpz ⊢
        have H30' := hidd (show ∀ x ∈ L, x.size ≤ 30 from fun x hx => H30.out x (by rw [List.take_of_length_le (by omega)]; exact hx))
        obtain ⟨we, hwe⟩ : ∃ b, (w8 && L.all isName) = b := ⟨_, rfl⟩
        have HWE : Hid ((decide (L.length ≤ 8) && L.all isName) = we) := hidd (by rw [HW8.out]; exact hwe)
        obtain ⟨P, hP⟩ : ∃ P, jt L = P := ⟨_, rfl⟩
        obtain ⟨tt, htt⟩ : ∃ tt, (if L.length = 0 then (⟨#[47]⟩ : ByteArray) else P) = tt := ⟨_, rfl⟩
        have htz : tt.size < 4294967281 := by
          rw [← htt]
          split
          · decide
          · rw [← hP]; omega
        have HPP := hidd hP
        have HTT := hidd htt
        rw [hwe, hP]
        clear hpz hA H30 hwe hP htt HW8
        go_upto_if 99 with (fail)
        go_cut [10] from 97 to 99 (fun t wx => t = .string tt ∧ wx = wr)
        case first =>
          by_cases h0 : L.length = 0
          · have hd0 : ((L.length : Int) == 0) = true := beq_iff_eq.2 (by omega)
            go_wp2_with fail
            go_meet
            exact ⟨by rw [← HTT.out, if_pos h0], rfl⟩
          · have hd0 : ((L.length : Int) == 0) = false := beq_eq_false_iff_ne.2 (by omega)
            go_wp2_with fail
            go_meet
            exact ⟨by rw [← HTT.out, if_neg h0], rfl⟩
        case rest =>
          obtain ⟨rfl, rfl⟩ := hcut
          have HSP := hidd (split_any E B tt wc (HEW.out wc hbel) (HMW.out wc hbel) htz)
          have hAr := HL.out.ob hbel (Nat.le_refl _)
          clear htz
          go_wp2_with fail
          refine HSP.out.mono ?_
          rintro e w4 ⟨hb4, hr⟩
          have hB4 := hbel.trans (hb4.mono hbel.size)
          obtain ⟨v2, er2, rfl, HR2⟩ : ∃ v er, e = .returned (.tuple #[v, er]) ∧ Hid ((∃ l, splitOf tt = some l ∧ er = .nilIface ∧ Sl w4 v (tcells l) l.length 1) ∨ (splitOf tt = none ∧ v = .slice none 0 0 ∧ er = evc E 5)) := by
            rcases hr with ⟨l, v, h1, rfl, h2⟩ | ⟨h1, rfl⟩
            · exact ⟨_, _, rfl, hidd (.inl ⟨l, h1, rfl, h2⟩)⟩
            · exact ⟨_, _, rfl, hidd (.inr ⟨h1, rfl, rfl⟩)⟩
          have hA4 := hAr.ob hb4 (Nat.le_refl _)
          clear hr hb4 HSP hAr hbel
          go_wp2_with fail
          go_loopw [13, 14] (fun c _ wr => ∃ i : Nat, i ≤ L.length ∧ c = .int .i64 (i : Int) ∧ Hid (∀ x ∈ L.take i, ∀ c ∈ x.data.toList, c ≠ 47) ∧ wr = w4) (fun c _ _ => L.length - (intOf c).toNat)
          case atStart => exact ⟨0, Nat.zero_le _, rfl, hidd (by simp), rfl⟩
          case round =>
            obtain ⟨i, hi, rfl, HNS, rfl⟩ := hrel
            by_cases hlt : i < L.length
            · obtain ⟨b, off, rfl, hb, hc, hcell⟩ := hA4.at1 hlt
              rw [show (tcells L)[i] = .string L[i] by simp [tcells]] at hcell
              have hsn : (∀ c ∈ L[i].data.toList, c ≠ 47) → ∀ x ∈ L.take (i + 1), ∀ c ∈ x.data.toList, c ≠ 47 := fun h x hx => by
                rw [List.take_succ_eq_append_getElem hlt] at hx
                rcases List.mem_append.1 hx with h1 | h1
                · exact HNS.out x h1
                · simp only [List.mem_cons, List.not_mem_nil, or_false] at h1; subst h1; exact h
              have p1 : (0 : Int) ≤ (i : Int) := by omega
              have p2 : (i : Int) < (L.length : Int) := by omega
              have hi1 : i + 1 ≤ L.length := hlt
              have hx30 := H30'.out _ (List.getElem_mem hlt)
              generalize L[i] = x at *
              have HSN := hidd hsn
              have hxs : x.data.toList.length = x.size := by simp
              clear hsn
              obtain ⟨wo, hwo⟩ : ∃ wo : World, wo = wr := ⟨_, rfl⟩
              subst hwo
              go_wp2_with fail
              go_loopw [14] (fun c wi => ∃ k : Nat, k ≤ x.size ∧ c = .int .i64 (k : Int) ∧ Hid (∀ c ∈ x.data.toList.take k, c ≠ 47) ∧ wi = wo) (fun c _ => x.size - (intOf c).toNat)
              case atStart => exact ⟨0, Nat.zero_le _, rfl, hidd (by simp), by first | rfl | trivial⟩
              case round =>
                obtain ⟨k, hk, rfl, HK, rfl⟩ := hrel
                by_cases hkt : k < x.size
                · have hts : x.data.toList.take (k + 1) = x.data.toList.take k ++ [x[k]] := by
                    rw [List.take_succ_eq_append_getElem (by omega)]; rfl
                  have hyb := x[k].toNat_lt
                  have q1 : (0 : Int) ≤ (k : Int) := by omega
                  have q2 : (k : Int) < (x.size : Int) := by omega
                  obtain ⟨y, hy⟩ : ∃ y, x[k] = y := ⟨_, rfl⟩
                  have ey : (x[k].toNat : Int) = (y.toNat : Int) := by rw [hy]
                  rw [hy] at hts hyb
                  by_cases h47 : y = 47
                  · have e5 : ((y.toNat : Int) == 47) = true := by rw [h47]; rfl
                    clear hts hy h47 hA4
                    go_wp2_with fail
                    go_ret
                    exact ⟨rfl, hB4⟩
                  · have e5 : ((y.toNat : Int) == 47) = false := by
                      cases hq : ((y.toNat : Int) == 47) with
                      | false => rfl
                      | true => exact absurd (UInt8.toNat_inj.1 (by have := beq_iff_eq.1 hq; have e47 : (47 : UInt8).toNat = 47 := rfl; omega)) h47
                    have HK2 := hidd (show ∀ c ∈ x.data.toList.take (k + 1), c ≠ 47 from fun c hc => by
                      rw [hts] at hc
                      rcases List.mem_append.1 hc with h | h
                      · exact HK.out c h
                      · simp only [List.mem_cons, List.not_mem_nil, or_false] at h; subst h; exact h47)
                    clear hts hy h47 hA4
                    go_wp2_with fail
                    go_roundw
                    case rel => exact ⟨k + 1, by omega, by go_num, HK2, by first | rfl | trivial⟩
                    case measure => simp [intOf]; omega
                · have HN2 := hidd (HSN.out (fun c hc => HK.out c (by rw [List.take_of_length_le (by omega)]; exact hc)))
                  clear hA4 hxs
                  go_wp2_with fail
                  go_roundw
                  case rel => exact ⟨i + 1, hi1, by go_num, HN2, by first | rfl | trivial⟩
                  case measure => simp [intOf]; omega
            · have HNO := hidd (show ∀ x ∈ L, ∀ c ∈ x.data.toList, c ≠ 47 from fun x hx => HNS.out x (by rw [List.take_of_length_le (by omega)]; exact hx))
              clear HNS
              obtain rfl : L.length = i := by omega
              clear hil
              by_cases hE0 : L = []
              · subst hE0
                obtain rfl : tt = ⟨#[47]⟩ := HTT.out.symm
                obtain rfl : we = true := HWE.out.symm
                rcases HR2.out with ⟨l, h1, rfl, h2⟩ | ⟨h1, -, -⟩
                · obtain rfl : l = [] := by
                    have := (splitOf_stroke (s := ⟨#[47]⟩) rfl).symm.trans h1
                    exact (Option.some.inj this).symm
                  obtain ⟨va, vc, rfl, -⟩ := id h2
                  have HST := hidd (sameTexts_any _ _ [] [] wr h2 hA4)
                  simp only [List.length_nil] at HST ⊢
                  clear h1 h2 hA4 HR2
                  go_wp2_with fail
                  refine HST.out.mono ?_
                  rintro e w9 ⟨rfl, hb9⟩
                  have hB9 := hB4.trans (hb9.mono hB4.size)
                  go_wp2_with fail
                  go_ret
                  exact ⟨rfl, hB9⟩
                · have := (splitOf_stroke (s := ⟨#[47]⟩) rfl).symm.trans h1
                  cases this
              · have htj : tt.data.toList = joined L := by
                  rw [← HTT.out, if_neg (by intro e; exact hE0 (List.eq_nil_of_length_eq_zero e)), ← HPP.out]; rfl
                have hsp := splitOf_joined hE0 HNO.out htj
                by_cases hLe : L = [⟨#[]⟩]
                · rw [if_pos hLe] at hsp
                  rcases HR2.out with ⟨l, h1, rfl, h2⟩ | ⟨h1, -, -⟩
                  · obtain rfl : l = [] := (Option.some.inj (hsp.symm.trans h1)).symm
                    obtain ⟨va, vc, rfl, -⟩ := id h2
                    subst hLe
                    obtain ⟨b, off, rfl, hb, hc, hcell⟩ := hA4.at1 (i := 0) (by decide)
                    rw [Nat.add_zero] at hcell
                    simp only [tcells, List.map_cons, List.map_nil, List.getElem_cons_zero] at hcell
                    simp only [List.length_cons, List.length_nil]
                    clear h1 h2 hA4 HR2 hsp htj
                    go_wp2_with fail
                    go_ret
                    exact ⟨rfl, hB4⟩
                  · rw [hsp] at h1; cases h1
                · rw [if_neg hLe] at hsp
                  by_cases hcd : L.length ≤ 8 ∧ L.all isName = true
                  · rw [if_pos hcd] at hsp
                    obtain rfl : we = true := by rw [← HWE.out, decide_eq_true hcd.1, hcd.2]; rfl
                    rcases HR2.out with ⟨l, h1, rfl, h2⟩ | ⟨h1, -, -⟩
                    · obtain rfl : L = l := Option.some.inj (hsp.symm.trans h1)
                      obtain ⟨va, vc, rfl, -⟩ := id h2
                      have HST := hidd (sameTexts_any _ _ L L wr h2 hA4)
                      clear hcd hsp htj h1
                      by_cases hl1 : L.length = 1
                      · obtain ⟨b, off, rfl, hb, hc, hcell⟩ := hA4.at1 (i := 0) (by omega)
                        rw [show (tcells L)[0] = .string (L[0]'(by omega)) by simp [tcells], Nat.add_zero] at hcell
                        have hd1 : ((L.length : Int) == 1) = true := beq_iff_eq.2 (by omega)
                        have hne : ((L[0]'(by omega)).toList == []) = false := by
                          rw [Lib.toList_data]
                          cases hq : ((L[0]'(by omega)).data.toList == []) with
                          | false => rfl
                          | true =>
                            have e9 : L[0]'(by omega) = ⟨#[]⟩ := ba_inj (by simpa using hq)
                            exact absurd (one_el hl1 (by omega) e9) hLe
                        have hp0 : (0 : Int) < (L.length : Int) := by omega
                        obtain ⟨x0, hx0⟩ : ∃ x0, L[0]'(by omega) = x0 := ⟨_, rfl⟩
                        rw [hx0] at hcell hne
                        clear hx0 hl1
                        clear hLe hA4 h2 HR2
                        go_wp2_with fail
                        refine HST.out.mono ?_
                        rintro e w9 ⟨rfl, hb9⟩
                        have hB9 := hB4.trans (hb9.mono hB4.size)
                        go_wp2_with fail
                        go_ret
                        exact ⟨rfl, hB9⟩
                      · have hd1 : ((L.length : Int) == 1) = false := beq_eq_false_iff_ne.2 (by omega)
                        clear hLe hA4 h2 HR2
                        go_wp2_with fail
                        refine HST.out.mono ?_
                        rintro e w9 ⟨rfl, hb9⟩
                        have hB9 := hB4.trans (hb9.mono hB4.size)
                        go_wp2_with fail
                        go_ret
                        exact ⟨rfl, hB9⟩
                    · rw [hsp] at h1; cases h1
                  · rw [if_neg hcd] at hsp
                    obtain rfl : we = false := by
                      rw [← HWE.out]
                      cases hq : (decide (L.length ≤ 8) && L.all isName) with
                      | false => rfl
                      | true =>
                        rw [Bool.and_eq_true] at hq
                        exact absurd ⟨of_decide_eq_true hq.1, hq.2⟩ hcd
                    rcases HR2.out with ⟨l, h1, -, -⟩ | ⟨h1, rfl, rfl⟩
                    · rw [hsp] at h1; cases h1
                    · rw [evc_ne (by decide)]
                      clear hcd hsp htj h1
                      by_cases hl1 : L.length = 1
                      · obtain ⟨b, off, rfl, hb, hc, hcell⟩ := hA4.at1 (i := 0) (by omega)
                        rw [show (tcells L)[0] = .string (L[0]'(by omega)) by simp [tcells], Nat.add_zero] at hcell
                        have hd1 : ((L.length : Int) == 1) = true := beq_iff_eq.2 (by omega)
                        have hne : ((L[0]'(by omega)).toList == []) = false := by
                          rw [Lib.toList_data]
                          cases hq : ((L[0]'(by omega)).data.toList == []) with
                          | false => rfl
                          | true =>
                            have e9 : L[0]'(by omega) = ⟨#[]⟩ := ba_inj (by simpa using hq)
                            exact absurd (one_el hl1 (by omega) e9) hLe
                        have hp0 : (0 : Int) < (L.length : Int) := by omega
                        obtain ⟨x0, hx0⟩ : ∃ x0, L[0]'(by omega) = x0 := ⟨_, rfl⟩
                        rw [hx0] at hcell hne
                        clear hx0 hl1
                        clear hLe hA4 HR2
                        go_wp2_with fail
                        go_ret
                        exact ⟨rfl, hB4⟩
                      · have hd1 : ((L.length : Int) == 1) = false := beq_eq_false_iff_ne.2 (by omega)
                        clear hLe hA4 HR2
                        go_wp2_with fail
                        go_ret
                        exact ⟨rfl, hB4⟩
end Go.Proofs.YtccplkbbaodpeaaDoor
