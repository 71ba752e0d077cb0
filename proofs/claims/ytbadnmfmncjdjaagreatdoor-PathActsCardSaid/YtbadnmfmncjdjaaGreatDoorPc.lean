/- stillroomlaw1.PathActs, walked. Condition: the trees are there, the variables read as listed. -/
import Derived.Test.YtbadnmfmncjdjaaGreatDoorRgD
import Derived.Test.YtbadnmfmncjdjaaGreatDoorTrD
import Derived.Test.YtbadnmfmncjdjaaGreatDoorTrO
import Derived.Test.YtbadnmfmncjdjaaGreatDoorTrS
import Derived.Test.YtbadnmfmncjdjaaGreatDoorCoded
namespace Go.Proofs.YtbadnmfmncjdjaaGreatDoor
open Go.RowKit

theorem coded_evc3 {E : Nat → Addr} {c : Nat} (h : c ≤ 13) : Coded E (evc E c) c := by
  by_cases h0 : c = 0
  · subst h0; exact .inl ⟨rfl, rfl⟩
  · exact .inr ⟨c - 1, by omega, by omega, if_neg h0⟩
theorem large_num3 (t : Lt) (most : Nat) (hm : most ≤ 300) : ∃ r : Int, (0 ≤ r ∧ r ≤ 1) ∧ (r = 0 → t.sz ≤ most) ∧ Hid (∀ W, t.Ok W → Calls Tryz.prog 7 #[nval t, .int .i64 (most : Int)] W fun e w' => e = .returned (.int .i64 r) ∧ Below W.heap.size W w') := by
  by_cases h : SmallL most t
  · exact ⟨0, by omega, fun _ => h.small.many, hidd (fun W ht => (large_fn t most W ht hm).mono fun _ _ ⟨k, hb⟩ => ⟨k.elim (fun k => k.1) (fun k => absurd h k.2), hb⟩)⟩
  · exact ⟨1, by omega, fun e => by omega, hidd (fun W ht => (large_fn t most W ht hm).mono fun _ _ ⟨k, hb⟩ => ⟨k.elim (fun k => absurd k.2 h) (fun k => k.1), hb⟩)⟩
theorem below_four {B : Nat} {w W : World} (h : Below B w W) {p : Nat} (hp : B ≤ p) (x0 x1 x2 x3 : Value) : Below B w ((((W.setCell ⟨p, 0, none⟩ x0).setCell ⟨p, 1, none⟩ x1).setCell ⟨p, 2, none⟩ x2).setCell ⟨p, 3, none⟩ x3) :=
  (((h.setCell (p := ⟨p, 0, none⟩) hp x0).setCell (p := ⟨p, 1, none⟩) hp x1).setCell (p := ⟨p, 2, none⟩) hp x2).setCell (p := ⟨p, 3, none⟩) hp x3
/-- What holds between the calls, ahead of the own tree. -/
structure PbK (E : Nat → Addr) (B : Nat) (w : World) (a b : Lt) (W : World) : Prop where
  below : Below w.heap.size w W
  oa : a.Ok W
  ob : b.Ok W
  env : Env codeGs B W E
  hnd : Hnd W
  ml : Ml W
  ba : Blk W w.heap.size (ncells a) 24
  bb : Blk W (w.heap.size + 1) (ncells b) 24
/-- And an own tree. -/
structure PcK (E : Nat → Addr) (B : Nat) (w : World) (a b x : Lt) (px : Nat) (W : World) : Prop extends PbK E B w a b W where
  ox : x.Ok W
  bx : Blk W px (ncells x) 24
section
variable {E : Nat → Addr} {B : Nat} {w W W' : World} {a b x : Lt} {px : Nat}
theorem PbK.later (h : PbK E B w a b W) (hb : Below W.heap.size W W') : PbK E B w a b W' :=
  ⟨h.below.trans (hb.mono h.below.size), h.oa.ob hb, h.ob.ob hb, h.env.ob hb, h.hnd.below hb (Nat.le_refl _), h.ml.ob hb, h.ba.below hb h.ba.lt, h.bb.below hb h.bb.lt⟩
theorem PcK.later (h : PcK E B w a b x px W) (hb : Below W.heap.size W W') : PcK E B w a b x px W' := ⟨h.toPbK.later hb, h.ox.ob hb, h.bx.below hb h.bx.lt⟩
theorem PbK.drew (h : PbK E B w a b W) : PbK E B w a b W.drew := h.later ((Below.refl _ _).drew)
theorem PbK.alloc (h : PbK E B w a b W) (o : Obj) : PbK E B w a b (W.alloc o) := h.later ((Below.refl _ _).alloc (Nat.le_refl _) o)
theorem PcK.alloc (h : PcK E B w a b x px W) (o : Obj) : PcK E B w a b x px (W.alloc o) := h.later ((Below.refl _ _).alloc (Nat.le_refl _) o)
theorem PbK.c {ka da kb db : ByteArray} {ea eb : Bool} {va vb : Value} {ksa ksb : List (ByteArray × Lt)} (h : PbK E B w (.mk ka da ea va ksa) (.mk kb db eb vb ksb) W) :
    W.cell? ⟨w.heap.size, 0, none⟩ = some (.string ka) ∧ W.cell? ⟨w.heap.size, 1, none⟩ = some (.string da) ∧ W.cell? ⟨w.heap.size, 2, none⟩ = some (.bool ea) ∧ W.cell? ⟨w.heap.size, 3, none⟩ = some va ∧
    W.cell? ⟨w.heap.size + 1, 0, none⟩ = some (.string kb) ∧ W.cell? ⟨w.heap.size + 1, 1, none⟩ = some (.string db) ∧ W.cell? ⟨w.heap.size + 1, 2, none⟩ = some (.bool eb) ∧ W.cell? ⟨w.heap.size + 1, 3, none⟩ = some vb :=
  ⟨h.ba.cell (i := 0) rfl, h.ba.cell (i := 1) rfl, h.ba.cell (i := 2) rfl, h.ba.cell (i := 3) rfl, h.bb.cell (i := 0) rfl, h.bb.cell (i := 1) rfl, h.bb.cell (i := 2) rfl, h.bb.cell (i := 3) rfl⟩
theorem PcK.o {kx dx kb db : ByteArray} {ex eb : Bool} {vx vb : Value} {ksx ksb : List (ByteArray × Lt)} (h : PcK E B w a (.mk kb db eb vb ksb) (.mk kx dx ex vx ksx) px W) :
    W.cell? ⟨px, 0, none⟩ = some (.string kx) ∧ W.cell? ⟨px, 1, none⟩ = some (.string dx) ∧ W.cell? ⟨px, 2, none⟩ = some (.bool ex) ∧ W.cell? ⟨px, 3, none⟩ = some vx ∧
    W.cell? ⟨w.heap.size + 1, 0, none⟩ = some (.string kb) ∧ W.cell? ⟨w.heap.size + 1, 1, none⟩ = some (.string db) ∧ W.cell? ⟨w.heap.size + 1, 2, none⟩ = some (.bool eb) ∧ W.cell? ⟨w.heap.size + 1, 3, none⟩ = some vb :=
  ⟨h.bx.cell (i := 0) rfl, h.bx.cell (i := 1) rfl, h.bx.cell (i := 2) rfl, h.bx.cell (i := 3) rfl, h.bb.cell (i := 0) rfl, h.bb.cell (i := 1) rfl, h.bb.cell (i := 2) rfl, h.bb.cell (i := 3) rfl⟩
end
theorem st_uniq {s : ByteArray} {l m : List ByteArray} {c d : Nat} (h : splitOf s = some l ∧ c = 0 ∨ splitOf s = none ∧ c = 5 ∧ l = []) (k : splitOf s = some m ∧ d = 0 ∨ splitOf s = none ∧ d = 5 ∧ m = []) : l = m ∧ c = d := by
  rcases h with ⟨h1, h2⟩ | ⟨h1, h2, h3⟩
  · rcases k with ⟨k1, k2⟩ | ⟨k1, -⟩
    · rw [h1] at k1; exact ⟨Option.some.inj k1, h2.trans k2.symm⟩
    · rw [h1] at k1; cases k1
  · rcases k with ⟨k1, -⟩ | ⟨k1, k2, k3⟩
    · rw [h1] at k1; cases k1
    · exact ⟨h3.trans k3.symm, h2.trans k2.symm⟩
theorem ret_true : (decide ((0 : Int) = 0)) = true := rfl

set_option maxRecDepth 100000 in
set_option maxHeartbeats 40000000 in
theorem pathActs_true (E : Nat → Addr) (B : Nat) (a : Lt) (s : ByteArray) (b : Lt) (w : World) (ha : a.Ok w) (_ : s.size ≤ 9223372036854775807) (hb : b.Ok w) (hE : Env codeGs B w E) (hh : Hnd w) (hM : Ml w) :
    Calls Tryz.prog 5 #[nval a, .string s, nval b] w fun e w' => e = .returned (.bool true) ∧ Below w.heap.size w w' := by
  obtain ⟨aa, ac, hav⟩ := ha.shape
  obtain ⟨ba, bc, hbv⟩ := hb.shape
  obtain ⟨ka, da, ea, va, ksa⟩ := a
  obtain ⟨kb, db, eb, vb, ksb⟩ := b
  simp only [Tr.v, Tr.kids] at hav hbv
  subst hav hbv
  have hK0 : PbK E B w (Tr.mk ka da ea (.slice aa ksa.length ac) ksa : Lt) (Tr.mk kb db eb (.slice ba ksb.length bc) ksb : Lt) ((w.alloc (.cells #[.string ka, .string da, .bool ea, .slice aa ksa.length ac] 24)).alloc (.cells #[.string kb, .string db, .bool eb, .slice ba ksb.length bc] 24)) := by
    have hB2 := two_below w #[.string ka, .string da, .bool ea, .slice aa ksa.length ac] #[.string kb, .string db, .bool eb, .slice ba ksb.length bc] 24
    have h1 := Blk.new w [.string ka, .string da, .bool ea, .slice aa ksa.length ac] 24
    have h2 := Blk.new (w.alloc (.cells #[.string ka, .string da, .bool ea, .slice aa ksa.length ac] 24)) [.string kb, .string db, .bool eb, .slice ba ksb.length bc] 24
    rw [show (w.alloc (.cells #[.string ka, .string da, .bool ea, .slice aa ksa.length ac] 24)).heap.size = w.heap.size + 1 by simp] at h2
    exact ⟨hB2, ha.ob hB2, hb.ob hB2, hE.ob hB2, hh.below hB2 (Nat.le_refl _), hM.ob hB2, h1.alloc _, h2⟩
  clear ha hb hE hh hM
  obtain ⟨ra, hra, hra0, HLA⟩ := large_num3 (Tr.mk ka da ea (.slice aa ksa.length ac) ksa : Lt) 100 (by omega)
  obtain ⟨rb, hrb, hrb0, HLB⟩ := large_num3 (Tr.mk kb db eb (.slice ba ksb.length bc) ksb : Lt) 100 (by omega)
  have HOA := hidd (fun W (hs : ra = 0) (h : (Tr.mk ka da ea (.slice aa ksa.length ac) ksa : Lt).Ok W) => own_any 300 (Tr.mk ka da ea (.slice aa ksa.length ac) ksa : Lt) W (by have := hra0 hs; omega) (Nat.le_refl _) h)
  have HOB := hidd (fun W (hs : rb = 0) (h : (Tr.mk kb db eb (.slice ba ksb.length bc) ksb : Lt).Ok W) => own_any 300 (Tr.mk kb db eb (.slice ba ksb.length bc) ksb : Lt) W (by have := hrb0 hs; omega) (Nat.le_refl _) h)
  simp only [nval, Tr.kind, Tr.data, Tr.exec, Tr.v, Int.cast_ofNat_Int] at HLA HLB HOA HOB ⊢
  have HK0 := hidd hK0
  clear hK0 hra0 hrb0
  go_enter Tryz.func5, Tryz.ntmps5
  go_wp2_with fail
  refine (pathed_true E B _ HK0.out.env.tr HK0.out.ml).mono ?_
  rintro e w2 ⟨rfl, hb2⟩
  have hK2 := HK0.out.later hb2
  clear HK0 hb2
  go_wp2_with fail
  have hK2d := hK2.drew
  have ew1 : IntKind.i64.wrap (ra + rb) = ra + rb := by rw [IntKind.wrap_i64]; omega
  by_cases hlg : 0 < ra + rb
  · have e0 : decide (0 < ra + rb) = true := decide_eq_true hlg
    obtain ⟨c0, c1, c2, c3, c4, c5, c6, c7⟩ := PbK.c hK2d
    clear HOA HOB hK2 hlg hra hrb
    first
      | (go_region_law (first
          | (go_simp; go_at_call 7; (with_reducible refine (HLA.out _ (PbK.oa (by assumption))).mono ?_); rintro e w' ⟨rfl, hbl⟩; have hq := PbK.later (by assumption) hbl; obtain ⟨d0, d1, d2, d3, d4, d5, d6, d7⟩ := PbK.c hq)
          | (go_simp; go_at_call 7; (with_reducible refine (HLB.out _ (PbK.ob (by assumption))).mono ?_); rintro e w' ⟨rfl, hbl⟩; have hq := PbK.later (by assumption) hbl; obtain ⟨d0, d1, d2, d3, d4, d5, d6, d7⟩ := PbK.c hq)))
      | fail
    all_goals
      go_wp2_with fail
      go_ret
      exact ⟨rfl, PbK.below (by assumption)⟩
  · have hr0 : ra = 0 := by omega
    have hr1 : rb = 0 := by omega
    have e0 : decide (0 < ra + rb) = false := decide_eq_false hlg
    by_cases hs : s.size ≤ 150
    rotate_left
    · have e1 : decide ((150 : Int) < (s.size : Int)) = true := decide_eq_true (by omega)
      first
        | (go_region_held3 (fun W' => W'.cell? ⟨w.heap.size, 0, none⟩ = some (.string ka) ∧ W'.cell? ⟨w.heap.size, 1, none⟩ = some (.string da) ∧ W'.cell? ⟨w.heap.size, 2, none⟩ = some (.bool ea) ∧ W'.cell? ⟨w.heap.size, 3, none⟩ = some (.slice aa ksa.length ac) ∧ W'.cell? ⟨w.heap.size + 1, 0, none⟩ = some (.string kb) ∧ W'.cell? ⟨w.heap.size + 1, 1, none⟩ = some (.string db) ∧ W'.cell? ⟨w.heap.size + 1, 2, none⟩ = some (.bool eb) ∧ W'.cell? ⟨w.heap.size + 1, 3, none⟩ = some (.slice ba ksb.length bc))
            (first | exact PbK.c (by assumption))
            (first
              | (go_at_call 7; (with_reducible refine (HLA.out _ (PbK.oa (by assumption))).mono ?_); rintro e w' ⟨rfl, hbl⟩; have hq := PbK.later (by assumption) hbl)
              | (go_at_call 7; (with_reducible refine (HLB.out _ (PbK.ob (by assumption))).mono ?_); rintro e w' ⟨rfl, hbl⟩; have hq := PbK.later (by assumption) hbl)))
        | fail
      go_wp2_with fail
      go_ret
      exact ⟨rfl, PbK.below (by assumption)⟩
    · have e1 : decide ((150 : Int) < (s.size : Int)) = false := decide_eq_false (by omega)
      first
        | (go_region_held3 (fun W' => W'.cell? ⟨w.heap.size, 0, none⟩ = some (.string ka) ∧ W'.cell? ⟨w.heap.size, 1, none⟩ = some (.string da) ∧ W'.cell? ⟨w.heap.size, 2, none⟩ = some (.bool ea) ∧ W'.cell? ⟨w.heap.size, 3, none⟩ = some (.slice aa ksa.length ac) ∧ W'.cell? ⟨w.heap.size + 1, 0, none⟩ = some (.string kb) ∧ W'.cell? ⟨w.heap.size + 1, 1, none⟩ = some (.string db) ∧ W'.cell? ⟨w.heap.size + 1, 2, none⟩ = some (.bool eb) ∧ W'.cell? ⟨w.heap.size + 1, 3, none⟩ = some (.slice ba ksb.length bc))
            (first | exact PbK.c (by assumption))
            (first
              | (go_at_call 7; (with_reducible refine (HLA.out _ (PbK.oa (by assumption))).mono ?_); rintro e w' ⟨rfl, hbl⟩; have hq := PbK.later (by assumption) hbl)
              | (go_at_call 7; (with_reducible refine (HLB.out _ (PbK.ob (by assumption))).mono ?_); rintro e w' ⟨rfl, hbl⟩; have hq := PbK.later (by assumption) hbl)))
        | fail
      have hq3 := hq
      have HOAf := hidd (HOA.out _ hr0 hq3.oa)
      have HOBf := hidd (fun W h => HOB.out W hr1 h)
      clear HLA HLB hK2 hK2d hq hbl ew1 e0 e1 HOA HOB hrb hra hlg
      obtain ⟨c0, c1, c2, c3, -, -, -, -⟩ := PbK.c hq3
      go_wp2_with fail
      refine HOAf.out.mono ?_
      rintro e w4 ⟨oa, oc, kso, rfl, hbro, hoo, -, hb4⟩
      simp only [Tr.kind, Tr.data, Tr.exec] at hbro hoo ⊢
      have hq5 : PcK E B w (Tr.mk ka da ea (.slice aa ksa.length ac) ksa : Lt) (Tr.mk kb db eb (.slice ba ksb.length bc) ksb : Lt) (.mk ka da ea (.slice oa kso.length oc) kso) w4.heap.size (w4.alloc (.cells #[.string ka, .string da, .bool ea, .slice oa kso.length oc] 24)) :=
        ⟨(hq3.later hb4).alloc _, hoo.alloc _, Blk.new w4 [.string ka, .string da, .bool ea, .slice oa kso.length oc] 24⟩
      have HBRO : Hid ((Tr.mk ka da ea (.slice oa kso.length oc) kso : Lt).bare = (Tr.mk ka da ea (.slice aa ksa.length ac) ksa : Lt).bare) := hidd hbro
      clear hbro hoo hb4 hq3 c0 c1 c2 c3 HOAf
      go_upto_region 5 with fail
      generalize w4.alloc (.cells #[.string ka, .string da, .bool ea, .slice oa kso.length oc] 24) = w5 at *
      generalize w4.heap.size = N1 at *
      have HSP := hidd (split_any E B s w5 hq5.env.tr hq5.ml (by omega))
      have HQ5 := hidd hq5
      clear hq5
      go_wp2_with fail
      refine HSP.out.mono ?_
      intro e w6 hyy
      obtain ⟨a1, p1, c1, l1, he, hb6, hc1, hl1, hm1⟩ := hyy.two
      subst he
      have HQ6 := hidd (HQ5.out.later hb6)
      have HL1 := hidd hl1
      have HRS := hidd (rsplit_any s w6 (by omega))
      clear hyy hl1 hb6 HSP
      go_wp2_with fail
      refine HRS.out.mono ?_
      intro e w7 hyy
      obtain ⟨a2, p2, c2, l2, he, hb7, hc2, hl2, hm2⟩ := hyy.two
      unfold numV at he
      subst he
      obtain ⟨hl, hc⟩ := st_uniq hm1.out hm2.out
      have HLL := hidd hl
      obtain rfl : c1 = c2 := hc
      have HQ7 := hidd (HQ6.out.later hb7)
      have HTX := hidd (fun W (h : Below w7.heap.size w7 W) => sameTexts_any _ _ l1 l2 W ((HL1.out.ob hb7 (Nat.le_refl _)).ob h (Nat.le_refl _)) (hl2.ob h (Nat.le_refl _)))
      have HCD := hidd (coded1 E B w7 HQ7.out.env HQ7.out.hnd (evc E c1) c1 (coded_evc3 (by omega)) (c1 : Int))
      clear hyy hl hl2 hb7 HRS HL1 hc2
      go_wp2_with fail
      refine HCD.out.mono ?_
      rintro e w8 ⟨rfl, hb8⟩
      have HQ8 := hidd (HQ7.out.later hb8)
      have HTY := hidd (HTX.out w8 hb8)
      have hdl : decide (l1 = l2) = true := decide_eq_true HLL.out
      rw [hdl] at HTY
      clear hb8 HTX HCD hdl
      go_wp2_with fail
      refine HTY.out.mono ?_
      rintro e w9 ⟨rfl, hb9⟩
      have HQ9 := hidd (HQ8.out.later hb9)
      clear hb9 HTY HQ8 HQ7 HQ6 HQ5
      have HG := hidd (get_any E B (Tr.mk ka da ea (.slice oa kso.length oc) kso : Lt) s w9 HQ9.out.ox HQ9.out.env.tr HQ9.out.ml (by omega))
      simp only [nval, Tr.kind, Tr.data, Tr.exec, Tr.v] at HG
      have o0 := HQ9.out.bx.cell (i := 0) rfl
      have o1 := HQ9.out.bx.cell (i := 1) rfl
      have o2 := HQ9.out.bx.cell (i := 2) rfl
      have o3 := HQ9.out.bx.cell (i := 3) rfl
      simp only [Tr.kind, Tr.data, Tr.exec, Tr.v] at o0 o1 o2 o3
      go_wp2_with fail
      refine HG.out.mono ?_
      intro e wA hyy
      obtain ⟨k1, d1, e1, v1, n1, ks1, g1, he, hbA, hg1, ho1, -, hm1⟩ := hyy.two
      subst he
      have hN2 := Blk.new wA [.string k1, .string d1, .bool e1, .slice v1 ks1.length n1] 24
      have hq9A := HQ9.out.later hbA
      have HQA := hidd hq9A
      have HB10 := hidd ((Below.refl wA.heap.size wA).alloc (Nat.le_refl _) (.cells #[.string k1, .string d1, .bool e1, .slice v1 ks1.length n1] 24))
      have HO1 := hidd (ho1.out.alloc (.cells #[.string k1, .string d1, .bool e1, .slice v1 ks1.length n1] 24))
      have HBw := hidd hq9A.below.size
      clear hyy hbA ho1 hq9A o0 o1 o2 o3 HG HQ9
      go_upto_region 10 with fail
      obtain ⟨N2, hN2e⟩ : ∃ N, wA.heap.size = N := ⟨_, rfl⟩
      have HN2 := hidd hN2e
      rw [hN2e] at hN2 HB10 ⊢
      generalize wA.alloc (.cells #[.string k1, .string d1, .bool e1, .slice v1 ks1.length n1] 24) = wB at *
      have HG := hidd (rget_any (Tr.mk ka da ea (.slice aa ksa.length ac) ksa : Lt) s wB (HQA.out.later (by rw [hN2e]; exact HB10.out)).oa (by omega))
      simp only [nval, Tr.kind, Tr.data, Tr.exec, Tr.v] at HG
      have hqB := HQA.out.later (by rw [hN2e]; exact HB10.out)
      have x0 := hqB.ba.cell (i := 0) rfl
      have x1 := hqB.ba.cell (i := 1) rfl
      have x2 := hqB.ba.cell (i := 2) rfl
      have x3 := hqB.ba.cell (i := 3) rfl
      simp only [Tr.kind, Tr.data, Tr.exec, Tr.v] at x0 x1 x2 x3
      clear hqB hN2e
      have HNB2 := hidd hN2
      clear hN2
      go_wp2_with fail
      refine HG.out.mono ?_
      intro e wC hyy
      obtain ⟨k2, d2, e2, v2, n2, ks2, g2, he, hbC, hg2, ho2, -, hm2⟩ := hyy.two
      unfold numV at he
      subst he
      have hm2' := hm2.out
      rw [← HBRO.out] at hm2'
      obtain ⟨hyeq, hgeq⟩ := hm1.out.uniq hm2'
      have HY := hidd hyeq
      obtain rfl : g1 = g2 := hgeq
      have hN3 := Blk.new wC [.string k2, .string d2, .bool e2, .slice v2 ks2.length n2] 24
      have hBal := (Below.refl wC.heap.size wC).alloc (Nat.le_refl _) (.cells #[.string k2, .string d2, .bool e2, .slice v2 ks2.length n2] 24)
      have hz2 : N2 ≤ wB.heap.size := by have h1 := HB10.out.size; have h2 := HN2.out; omega
      have HBD := hidd ((HB10.out.trans (hbC.mono hz2)).trans (hBal.mono (Nat.le_trans hz2 hbC.size)))
      clear hz2
      have HNB3 := hidd ((HNB2.out.below hbC HNB2.out.lt).below hBal (HNB2.out.below hbC HNB2.out.lt).lt)
      have HO1' := hidd ((HO1.out.ob hbC).ob hBal)
      have HO2 := hidd (ho2.out.ob hBal)
      have HLT := hidd (HNB2.out.below hbC HNB2.out.lt).lt
      have HN3 := hidd hN3
      clear hyy hbC ho2 hm1 hm2 hm2' hyeq x0 x1 x2 x3 HG HO1 HNB2 HB10 hN3 hBal hg2
      go_upto_region 11 with fail
      generalize wC.alloc (.cells #[.string k2, .string d2, .bool e2, .slice v2 ks2.length n2] 24) = wD at *
      generalize wC.heap.size = N3 at *
      have HCD := hidd (coded1 E B wD (HQA.out.later (by rw [HN2.out]; exact HBD.out)).env (HQA.out.later (by rw [HN2.out]; exact HBD.out)).hnd (evc E g1) g1 (coded_evc3 (by omega)) (g1 : Int))
      have HSM := hidd (fun W (h : Below wD.heap.size wD W) => sameTree_any _ (Tr.mk k1 d1 e1 (.slice v1 ks1.length n1) ks1 : Lt) (Tr.mk k2 d2 e2 (.slice v2 ks2.length n2) ks2 : Lt) W true (Nat.le_refl _) (HO1'.out.ob h) (HO2.out.ob h) ⟨fun _ => HY.out, fun _ => rfl⟩)
      simp only [nval, Tr.kind, Tr.data, Tr.exec, Tr.v] at HSM
      go_wp2_with fail
      refine HCD.out.mono ?_
      rintro e wE ⟨rfl, hbv⟩
      have HSN := hidd (HSM.out wE hbv)
      have hA := HNB3.out.below hbv HNB3.out.lt
      have hBB := HN3.out.below hbv HN3.out.lt
      have u0 := hA.cell (i := 0) rfl
      have u1 := hA.cell (i := 1) rfl
      have u2 := hA.cell (i := 2) rfl
      have u3 := hA.cell (i := 3) rfl
      have z0 := hBB.cell (i := 0) rfl
      have z1 := hBB.cell (i := 1) rfl
      have z2 := hBB.cell (i := 2) rfl
      have z3 := hBB.cell (i := 3) rfl
      have hzv : N2 ≤ wD.heap.size := by have h1 := HBD.out.size; have h2 := HN2.out; omega
      have HBV := hidd (HBD.out.trans (hbv.mono hzv))
      clear hzv
      have HA := hidd hA
      have HBB := hidd hBB
      clear hbv hA hBB HCD HSM HNB3 HN3 HBD HO1' HO2 HY hg1
      go_wp2_with fail
      refine HSN.out.mono ?_
      rintro e wE' ⟨rfl, hbv⟩
      have hzv : N2 ≤ wE.heap.size := by have h1 := HBV.out.size; have h2 := HN2.out; omega
      have HBD := hidd (HBV.out.trans (hbv.mono hzv))
      clear hzv
      have HNB3 := hidd (HA.out.below hbv HA.out.lt)
      have HN3 := hidd (HBB.out.below hbv HBB.out.lt)
      clear hbv HBV HA HBB HSN u0 u1 u2 u3 z0 z1 z2 z3
      go_upto_region 13 with fail
      have HBX : Hid (∀ W, Below wE'.heap.size wE' W → Below N2 wA W) := hidd (fun W h => HBD.out.trans (h.mono (by have h1 := HBD.out.size; have h2 := HN2.out; omega)))
      have HSC := hidd (fun W (h : Below N2 wA W) => (HQA.out.later (by rw [HN2.out]; exact h)).o)
      have HOX := hidd (fun W (h : Below N2 wA W) => HOBf.out W (HQA.out.later (by rw [HN2.out]; exact h)).ob)
      have HPT := hidd (fun W (x : Lt) (h : Below N2 wA W) (hx : x.Ok W) => put_any E B (Tr.mk ka da ea (.slice oa kso.length oc) kso : Lt) x s W (HQA.out.later (by rw [HN2.out]; exact h)).ox hx (HQA.out.later (by rw [HN2.out]; exact h)).env.tr (HQA.out.later (by rw [HN2.out]; exact h)).ml (by omega))
      simp only [nval, Tr.kind, Tr.data, Tr.exec, Tr.v] at HPT
      have hx0 : Below wE'.heap.size wE' wE'.drew := (Below.refl _ _).drew
      have hb0 := HBX.out _ hx0
      have hn3z := HN3.out.lt
      first
        | (go_region_held3 (fun W' => W'.cell? ⟨N1, 0, none⟩ = some (.string ka) ∧ W'.cell? ⟨N1, 1, none⟩ = some (.string da) ∧ W'.cell? ⟨N1, 2, none⟩ = some (.bool ea) ∧ W'.cell? ⟨N1, 3, none⟩ = some (.slice oa kso.length oc) ∧ W'.cell? ⟨w.heap.size + 1, 0, none⟩ = some (.string kb) ∧ W'.cell? ⟨w.heap.size + 1, 1, none⟩ = some (.string db) ∧ W'.cell? ⟨w.heap.size + 1, 2, none⟩ = some (.bool eb) ∧ W'.cell? ⟨w.heap.size + 1, 3, none⟩ = some (.slice ba ksb.length bc))
            (first | exact HSC.out _ hb0 | exact HSC.out _ hbF | exact HSC.out _ hbG | exact HSC.out _ (below_four hbG (Nat.le_refl _) _ _ _ _))
            (first
              | (go_at_call 8; (with_reducible refine (HOX.out _ hb0).mono ?_); rintro e wF ⟨xa, xc, ksx, rfl, hbrx, hxo, -, hbF'⟩; have hxF := hx0.trans (hbF'.mono (Nat.le_refl _)); have hbF := HBX.out _ hxF; simp only [Tr.kind, Tr.data, Tr.exec] at hbrx hxo ⊢)
              | (go_at_call 9; (with_reducible refine (HPT.out _ (.mk kb db eb (.slice xa ksx.length xc) ksx) hbF hxo).mono ?_); intro e wG hyy; obtain ⟨k1, d1, e1, v1, n1, ks1, g1, he, hbG', hg1, ho1, hi1, hm1⟩ := hyy.two; subst he; have hxG := hxF.trans (hbG'.mono hxF.size); have hbG := HBX.out _ hxG; have hn2 := HNB3.out.below hxG HNB3.out.lt; have z0 := hn2.cell (i := 0) rfl; have z1 := hn2.cell (i := 1) rfl; have z2 := hn2.cell (i := 2) rfl; have z3 := hn2.cell (i := 3) rfl; have f0 := hn2.frozen 0; have f1 := hn2.frozen 1; have f2 := hn2.frozen 2; have f3 := hn2.frozen 3)))
        | fail
      have hlo : N3 < wF.heap.size := Nat.lt_of_lt_of_le hn3z hxF.size
      have HBRX := hidd hbrx
      go_upto_region 14 with fail
      have hFG := (Fr.refl (fun b => b = N2) wG).four (p := N2) (.inl rfl) (.string k1) (.string d1) (.bool e1) (.slice v1 ks1.length n1)
      have HNB2 := hidd (hn2.four (x0 := .string k1) (x1 := .string d1) (x2 := .bool e1) (x3 := .slice v1 ks1.length n1))
      have HBD := hidd (below_four hbG (Nat.le_refl _) (.string k1) (.string d1) (.bool e1) (.slice v1 ks1.length n1))
      have HN3 := hidd ((HN3.out.below hxG HN3.out.lt).fr hFG (by have := HLT.out; omega))
      have HO1 := hidd (ok_fr hFG _ ho1.out (in_mono (fun b hb e => by have := HLT.out; omega) _ hi1.out))
      have HI1 : Hid ((Tr.mk k1 d1 e1 (.slice v1 ks1.length n1) ks1 : Lt).In (fun b => b ≠ N3)) := hidd (in_mono (fun b hb => by omega) _ hi1.out)
      clear hFG hn2 hbG hxG ho1 hi1 hlo z0 z1 z2 z3 f0 f1 f2 f3 hb0 hbF hx0 hxF hbF' hbG' hxo hbrx HBX HSC HOX HPT HNB3 hyy hn3z
      generalize ((((wG.setCell ⟨N2, 0, none⟩ (.string k1)).setCell ⟨N2, 1, none⟩ (.string d1)).setCell ⟨N2, 2, none⟩ (.bool e1)).setCell ⟨N2, 3, none⟩ (.slice v1 ks1.length n1)) = wH at *
      have hqH := HQA.out.later (by rw [HN2.out]; exact HBD.out)
      have HG := hidd (rput_any (Tr.mk ka da ea (.slice aa ksa.length ac) ksa : Lt) (Tr.mk kb db eb (.slice ba ksb.length bc) ksb : Lt) s wH hqH.oa hqH.ob (by omega))
      simp only [nval, Tr.kind, Tr.data, Tr.exec, Tr.v] at HG
      have x0 := hqH.ba.cell (i := 0) rfl
      have x1 := hqH.ba.cell (i := 1) rfl
      have x2 := hqH.ba.cell (i := 2) rfl
      have x3 := hqH.ba.cell (i := 3) rfl
      simp only [Tr.kind, Tr.data, Tr.exec, Tr.v] at x0 x1 x2 x3
      have y0 := hqH.bb.cell (i := 0) rfl
      have y1 := hqH.bb.cell (i := 1) rfl
      have y2 := hqH.bb.cell (i := 2) rfl
      have y3 := hqH.bb.cell (i := 3) rfl
      simp only [Tr.kind, Tr.data, Tr.exec, Tr.v] at y0 y1 y2 y3
      clear hqH
      go_wp2_with fail
      refine HG.out.mono ?_
      intro e wI hyy
      obtain ⟨k2, d2, e2, v2, n2, ks2, g2, he, hbI, hg2, ho2, hi2, hm2⟩ := hyy.two
      unfold numV at he
      subst he
      have hm1' := hm1.out
      rw [HBRO.out, HBRX.out] at hm1'
      obtain ⟨hyeq, hgeq⟩ := hm1'.uniq hm2.out
      have HY := hidd hyeq
      obtain rfl : g1 = g2 := hgeq
      have hn3 := HN3.out.below hbI HN3.out.lt
      have hzW := HN3.out.lt
      have z0 := hn3.cell (i := 0) rfl
      have f0 := hn3.frozen 0
      have z1 := hn3.cell (i := 1) rfl
      have f1 := hn3.frozen 1
      have z2 := hn3.cell (i := 2) rfl
      have f2 := hn3.frozen 2
      have z3 := hn3.cell (i := 3) rfl
      have f3 := hn3.frozen 3
      clear hyy hm1 hm2 hm1' hyeq HG hg2 x0 x1 x2 x3 y0 y1 y2 y3
      go_upto_region 15 with fail
      have hFI := (Fr.refl (fun b => b = N3) wI).four (p := N3) (.inl rfl) (.string k2) (.string d2) (.bool e2) (.slice v2 ks2.length n2)
      have hlt := HLT.out
      have hzA : N2 ≤ wH.heap.size := by omega
      have HBD := hidd (below_four (HBD.out.trans (hbI.mono hzA)) (p := N3) (by omega) (.string k2) (.string d2) (.bool e2) (.slice v2 ks2.length n2))
      have HNB3 := hidd ((HNB2.out.below hbI HNB2.out.lt).fr hFI (by omega))
      have HN3 := hidd (hn3.four (x0 := .string k2) (x1 := .string d2) (x2 := .bool e2) (x3 := .slice v2 ks2.length n2))
      have HO1' := hidd (ok_fr hFI _ (HO1.out.ob hbI) (in_mono (fun b hb e => hb e) _ HI1.out))
      have HO2 := hidd (ok_fr hFI _ ho2.out (in_mono (fun b hb e => by omega) _ (hi2.out (fun b => b < N2) (by have := ok_in _ HQA.out.oa; rw [HN2.out] at this; exact this) (by have := ok_in _ HQA.out.ob; rw [HN2.out] at this; exact this))))
      clear hFI hlt hzA hn3 hbI ho2 hi2 HO1 HI1 HNB2 hzW z0 z1 z2 z3 f0 f1 f2 f3
      generalize ((((wI.setCell ⟨N3, 0, none⟩ (.string k2)).setCell ⟨N3, 1, none⟩ (.string d2)).setCell ⟨N3, 2, none⟩ (.bool e2)).setCell ⟨N3, 3, none⟩ (.slice v2 ks2.length n2)) = wJ at *
      have HCD := hidd (coded1 E B wJ (HQA.out.later (by rw [HN2.out]; exact HBD.out)).env (HQA.out.later (by rw [HN2.out]; exact HBD.out)).hnd (evc E g1) g1 (coded_evc3 (by omega)) (g1 : Int))
      have HSM := hidd (fun W (h : Below wJ.heap.size wJ W) => sameTree_any _ (Tr.mk k1 d1 e1 (.slice v1 ks1.length n1) ks1 : Lt) (Tr.mk k2 d2 e2 (.slice v2 ks2.length n2) ks2 : Lt) W true (Nat.le_refl _) (HO1'.out.ob h) (HO2.out.ob h) ⟨fun _ => HY.out, fun _ => rfl⟩)
      simp only [nval, Tr.kind, Tr.data, Tr.exec, Tr.v] at HSM
      go_wp2_with fail
      refine HCD.out.mono ?_
      rintro e wK ⟨rfl, hbv⟩
      have HSN := hidd (HSM.out wK hbv)
      have hA := HNB3.out.below hbv HNB3.out.lt
      have hBB := HN3.out.below hbv HN3.out.lt
      have u0 := hA.cell (i := 0) rfl
      have u1 := hA.cell (i := 1) rfl
      have u2 := hA.cell (i := 2) rfl
      have u3 := hA.cell (i := 3) rfl
      have z0 := hBB.cell (i := 0) rfl
      have z1 := hBB.cell (i := 1) rfl
      have z2 := hBB.cell (i := 2) rfl
      have z3 := hBB.cell (i := 3) rfl
      have hzv : N2 ≤ wJ.heap.size := by have h1 := HBD.out.size; have h2 := HN2.out; omega
      have HBV := hidd (HBD.out.trans (hbv.mono hzv))
      clear hzv
      have HA := hidd hA
      have HBB := hidd hBB
      clear hbv hA hBB HCD HSM HNB3 HN3 HBD HO1' HO2 HY hg1
      go_wp2_with fail
      refine HSN.out.mono ?_
      rintro e wK' ⟨rfl, hbv⟩
      have hzv : N2 ≤ wK.heap.size := by have h1 := HBV.out.size; have h2 := HN2.out; omega
      have HBD := hidd (HBV.out.trans (hbv.mono hzv))
      clear hzv
      have HNB3 := hidd (HA.out.below hbv HA.out.lt)
      have HN3 := hidd (HBB.out.below hbv HBB.out.lt)
      clear hbv HBV HA HBB HSN u0 u1 u2 u3 z0 z1 z2 z3
      go_upto_region 17 with fail
      have hqD := HQA.out.later (by rw [HN2.out]; exact HBD.out)
      have HG := hidd (drop_any E B (Tr.mk ka da ea (.slice oa kso.length oc) kso : Lt) s wK' hqD.ox hqD.env.tr hqD.ml (by omega))
      simp only [nval, Tr.kind, Tr.data, Tr.exec, Tr.v] at HG
      have o0 := hqD.bx.cell (i := 0) rfl
      have o1 := hqD.bx.cell (i := 1) rfl
      have o2 := hqD.bx.cell (i := 2) rfl
      have o3 := hqD.bx.cell (i := 3) rfl
      simp only [Tr.kind, Tr.data, Tr.exec, Tr.v] at o0 o1 o2 o3
      clear hqD
      have hn3z := HN3.out.lt
      go_wp2_with fail
      refine HG.out.mono ?_
      intro e wG hyy
      obtain ⟨k1, d1, e1, v1, n1, ks1, g1, he, hxG, hg1, ho1, hi1, hm1⟩ := hyy.two
      subst he
      have hbG := HBD.out.trans (hxG.mono (by have h1 := HBD.out.size; have h2 := HN2.out; omega))
      have hn2 := HNB3.out.below hxG HNB3.out.lt
      have z0 := hn2.cell (i := 0) rfl
      have f0 := hn2.frozen 0
      have z1 := hn2.cell (i := 1) rfl
      have f1 := hn2.frozen 1
      have z2 := hn2.cell (i := 2) rfl
      have f2 := hn2.frozen 2
      have z3 := hn2.cell (i := 3) rfl
      have f3 := hn2.frozen 3
      have hlo : N3 < wK'.heap.size := hn3z
      clear hn3z HG o0 o1 o2 o3
      go_upto_region 18 with fail
      have hFG := (Fr.refl (fun b => b = N2) wG).four (p := N2) (.inl rfl) (.string k1) (.string d1) (.bool e1) (.slice v1 ks1.length n1)
      have HNB2 := hidd (hn2.four (x0 := .string k1) (x1 := .string d1) (x2 := .bool e1) (x3 := .slice v1 ks1.length n1))
      have HBD := hidd (below_four hbG (Nat.le_refl _) (.string k1) (.string d1) (.bool e1) (.slice v1 ks1.length n1))
      have HN3 := hidd ((HN3.out.below hxG HN3.out.lt).fr hFG (by have := HLT.out; omega))
      have HO1 := hidd (ok_fr hFG _ ho1.out (in_mono (fun b hb e => by have := HLT.out; omega) _ hi1.out))
      have HI1 : Hid ((Tr.mk k1 d1 e1 (.slice v1 ks1.length n1) ks1 : Lt).In (fun b => b ≠ N3)) := hidd (in_mono (fun b hb => by omega) _ hi1.out)
      clear hFG hn2 hbG hxG ho1 hi1 hlo z0 z1 z2 z3 f0 f1 f2 f3 HNB3 hyy
      generalize ((((wG.setCell ⟨N2, 0, none⟩ (.string k1)).setCell ⟨N2, 1, none⟩ (.string d1)).setCell ⟨N2, 2, none⟩ (.bool e1)).setCell ⟨N2, 3, none⟩ (.slice v1 ks1.length n1)) = wL at *
      have hqH := HQA.out.later (by rw [HN2.out]; exact HBD.out)
      have HG := hidd (rdrop_any (Tr.mk ka da ea (.slice aa ksa.length ac) ksa : Lt) s wL hqH.oa (by omega))
      simp only [nval, Tr.kind, Tr.data, Tr.exec, Tr.v] at HG
      have x0 := hqH.ba.cell (i := 0) rfl
      have x1 := hqH.ba.cell (i := 1) rfl
      have x2 := hqH.ba.cell (i := 2) rfl
      have x3 := hqH.ba.cell (i := 3) rfl
      simp only [Tr.kind, Tr.data, Tr.exec, Tr.v] at x0 x1 x2 x3
      clear hqH
      go_wp2_with fail
      refine HG.out.mono ?_
      intro e wI hyy
      obtain ⟨k2, d2, e2, v2, n2, ks2, g2, he, hbI, hg2, ho2, hi2, hm2⟩ := hyy.two
      unfold numV at he
      subst he
      have hm1' := hm1.out
      rw [HBRO.out] at hm1'
      obtain ⟨hyeq, hgeq⟩ := hm1'.uniq hm2.out
      have HY := hidd hyeq
      obtain rfl : g1 = g2 := hgeq
      have hn3 := HN3.out.below hbI HN3.out.lt
      have hzW := HN3.out.lt
      have z0 := hn3.cell (i := 0) rfl
      have f0 := hn3.frozen 0
      have z1 := hn3.cell (i := 1) rfl
      have f1 := hn3.frozen 1
      have z2 := hn3.cell (i := 2) rfl
      have f2 := hn3.frozen 2
      have z3 := hn3.cell (i := 3) rfl
      have f3 := hn3.frozen 3
      clear hyy hm1 hm2 hm1' hyeq HG hg2 x0 x1 x2 x3
      go_upto_region 19 with fail
      have hFI := (Fr.refl (fun b => b = N3) wI).four (p := N3) (.inl rfl) (.string k2) (.string d2) (.bool e2) (.slice v2 ks2.length n2)
      have hlt := HLT.out
      have hzA : N2 ≤ wL.heap.size := by omega
      have HBD := hidd (below_four (HBD.out.trans (hbI.mono hzA)) (p := N3) (by omega) (.string k2) (.string d2) (.bool e2) (.slice v2 ks2.length n2))
      have HNB3 := hidd ((HNB2.out.below hbI HNB2.out.lt).fr hFI (by omega))
      have HN3 := hidd (hn3.four (x0 := .string k2) (x1 := .string d2) (x2 := .bool e2) (x3 := .slice v2 ks2.length n2))
      have HO1' := hidd (ok_fr hFI _ (HO1.out.ob hbI) (in_mono (fun b hb e => hb e) _ HI1.out))
      have HO2 := hidd (ok_fr hFI _ ho2.out (in_mono (fun b hb e => by omega) _ (hi2.out (fun b => b < N2) (by have := ok_in _ HQA.out.oa; rw [HN2.out] at this; exact this) (ltZ_in _))))
      clear hFI hlt hzA hn3 hbI ho2 hi2 HO1 HI1 HNB2 hzW z0 z1 z2 z3 f0 f1 f2 f3
      generalize ((((wI.setCell ⟨N3, 0, none⟩ (.string k2)).setCell ⟨N3, 1, none⟩ (.string d2)).setCell ⟨N3, 2, none⟩ (.bool e2)).setCell ⟨N3, 3, none⟩ (.slice v2 ks2.length n2)) = wM at *
      have HCD := hidd (coded1 E B wM (HQA.out.later (by rw [HN2.out]; exact HBD.out)).env (HQA.out.later (by rw [HN2.out]; exact HBD.out)).hnd (evc E g1) g1 (coded_evc3 (by omega)) (g1 : Int))
      have HSM := hidd (fun W (h : Below wM.heap.size wM W) => sameTree_any _ (Tr.mk k1 d1 e1 (.slice v1 ks1.length n1) ks1 : Lt) (Tr.mk k2 d2 e2 (.slice v2 ks2.length n2) ks2 : Lt) W true (Nat.le_refl _) (HO1'.out.ob h) (HO2.out.ob h) ⟨fun _ => HY.out, fun _ => rfl⟩)
      simp only [nval, Tr.kind, Tr.data, Tr.exec, Tr.v] at HSM
      go_wp2_with fail
      refine HCD.out.mono ?_
      rintro e wN ⟨rfl, hbv⟩
      have HSN := hidd (HSM.out wN hbv)
      have hA := HNB3.out.below hbv HNB3.out.lt
      have hBB := HN3.out.below hbv HN3.out.lt
      have u0 := hA.cell (i := 0) rfl
      have u1 := hA.cell (i := 1) rfl
      have u2 := hA.cell (i := 2) rfl
      have u3 := hA.cell (i := 3) rfl
      have z0 := hBB.cell (i := 0) rfl
      have z1 := hBB.cell (i := 1) rfl
      have z2 := hBB.cell (i := 2) rfl
      have z3 := hBB.cell (i := 3) rfl
      have hzv : N2 ≤ wM.heap.size := by have h1 := HBD.out.size; have h2 := HN2.out; omega
      have HBV := hidd (HBD.out.trans (hbv.mono hzv))
      clear hzv
      have HA := hidd hA
      have HBB := hidd hBB
      clear hbv hA hBB HCD HSM HNB3 HN3 HBD HO1' HO2 HY hg1
      go_wp2_with fail
      refine HSN.out.mono ?_
      rintro e wN' ⟨rfl, hbv⟩
      have hzv : N2 ≤ wN.heap.size := by have h1 := HBV.out.size; have h2 := HN2.out; omega
      have HBD := hidd (HBV.out.trans (hbv.mono hzv))
      clear hzv
      have HNB3 := hidd (HA.out.below hbv HA.out.lt)
      have HN3 := hidd (HBB.out.below hbv HBB.out.lt)
      clear hbv HBV HA HBB HSN u0 u1 u2 u3 z0 z1 z2 z3
      go_upto_region 21 with fail
      have hqD := HQA.out.later (by rw [HN2.out]; exact HBD.out)
      have HG := hidd (pfollow_any E B (Tr.mk ka da ea (.slice oa kso.length oc) kso : Lt) s wN' hqD.ox hqD.env.tr hqD.ml (by omega))
      simp only [nval, Tr.kind, Tr.data, Tr.exec, Tr.v] at HG
      have o0 := hqD.bx.cell (i := 0) rfl
      have o1 := hqD.bx.cell (i := 1) rfl
      have o2 := hqD.bx.cell (i := 2) rfl
      have o3 := hqD.bx.cell (i := 3) rfl
      simp only [Tr.kind, Tr.data, Tr.exec, Tr.v] at o0 o1 o2 o3
      have HQD := hidd hqD
      clear hqD HNB3 HN3 HBD HQA HN2
      go_wp2_with fail
      refine HG.out.mono ?_
      intro e wO hyy
      obtain ⟨q1, g1, he, hbO, hg1, hm1⟩ := hyy
      subst he
      have HQO := hidd (HQD.out.later hbO)
      have hqO := HQO.out
      have HG2 := hidd (rfollow_any (Tr.mk ka da ea (.slice aa ksa.length ac) ksa : Lt) s wO hqO.oa (by omega))
      simp only [nval, Tr.kind, Tr.data, Tr.exec, Tr.v] at HG2
      have x0 := hqO.ba.cell (i := 0) rfl
      have x1 := hqO.ba.cell (i := 1) rfl
      have x2 := hqO.ba.cell (i := 2) rfl
      have x3 := hqO.ba.cell (i := 3) rfl
      simp only [Tr.kind, Tr.data, Tr.exec, Tr.v] at x0 x1 x2 x3
      clear hqO o0 o1 o2 o3 hbO HG HQD
      go_wp2_with fail
      refine HG2.out.mono ?_
      intro e wP hyy
      obtain ⟨q2, g2, he, hbP, hg2, hm2⟩ := hyy.two
      unfold numV at he
      subst he
      have hm1' := hm1.out
      rw [HBRO.out] at hm1'
      obtain ⟨hqq, hgg⟩ := hm1'.uniq hm2.out
      obtain rfl : q1 = q2 := hqq
      obtain rfl : g1 = g2 := hgg
      have HQP := hidd (HQO.out.later hbP)
      have HCD := hidd (coded1 E B wP HQP.out.env HQP.out.hnd (evc E g1) g1 (coded_evc3 (by omega)) (g1 : Int))
      have HSM := hidd (fun W (h : Below wP.heap.size wP W) => sameTree_any _ (Tr.mk ka da ea (.slice oa kso.length oc) kso : Lt) (Tr.mk ka da ea (.slice aa ksa.length ac) ksa : Lt) W true (Nat.le_refl _) (HQP.out.later h).ox (HQP.out.later h).oa ⟨fun _ => HBRO.out, fun _ => rfl⟩)
      simp only [nval, Tr.kind, Tr.data, Tr.exec, Tr.v] at HSM
      clear hyy hm1 hm2 hm1' hbP HG2 HQO x0 x1 x2 x3
      go_wp2_with fail
      refine HCD.out.mono ?_
      rintro e wQ ⟨rfl, hbv⟩
      have HSN := hidd (HSM.out wQ hbv)
      have hqQ := HQP.out.later hbv
      have hBQ := hqQ.below
      have x0 := hqQ.ba.cell (i := 0) rfl
      have x1 := hqQ.ba.cell (i := 1) rfl
      have x2 := hqQ.ba.cell (i := 2) rfl
      have x3 := hqQ.ba.cell (i := 3) rfl
      simp only [Tr.kind, Tr.data, Tr.exec, Tr.v] at x0 x1 x2 x3
      have o0 := hqQ.bx.cell (i := 0) rfl
      have o1 := hqQ.bx.cell (i := 1) rfl
      have o2 := hqQ.bx.cell (i := 2) rfl
      have o3 := hqQ.bx.cell (i := 3) rfl
      simp only [Tr.kind, Tr.data, Tr.exec, Tr.v] at o0 o1 o2 o3
      have qq : (q1.toList == q1.toList) = true := by simp
      clear hbv hqQ HCD HSM
      go_wp2_with fail
      refine HSN.out.mono ?_
      rintro e wR ⟨rfl, hbv⟩
      go_wp2_with fail
      go_ret
      exact ⟨rfl, hBQ.trans (hbv.mono hBQ.size)⟩
end Go.Proofs.YtbadnmfmncjdjaaGreatDoor
