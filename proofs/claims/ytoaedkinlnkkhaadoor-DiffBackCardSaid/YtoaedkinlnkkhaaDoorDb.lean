/- stillroomlaw1.DiffBack, walked. Condition: the trees are there, the variables read as listed. -/
import Derived.Test.YtoaedkinlnkkhaaDoorDbP
import Derived.Test.YtoaedkinlnkkhaaDoorTrD
namespace Go.Proofs.YtoaedkinlnkkhaaDoor
open Go.RowKit
theorem large_num5 (t : Lt) (most : Nat) (hm : most ≤ 300) : ∃ r : Int, (0 ≤ r ∧ r ≤ 1) ∧ (r = 0 ↔ SmallL most t) ∧ Hid (∀ W, t.Ok W → Calls Tryd.prog 7 #[nval t, .int .i64 (most : Int)] W fun e w' => e = .returned (.int .i64 r) ∧ Below W.heap.size W w') := by
  by_cases h : SmallL most t
  · exact ⟨0, by omega, ⟨fun _ => h, fun _ => rfl⟩, hidd (fun W ht => (large_fn t most W ht hm).mono fun _ _ ⟨k, hb⟩ => ⟨k.elim (fun k => k.1) (fun k => absurd h k.2), hb⟩)⟩
  · exact ⟨1, by omega, ⟨fun e => by omega, fun h' => absurd h' h⟩, hidd (fun W ht => (large_fn t most W ht hm).mono fun _ _ ⟨k, hb⟩ => ⟨k.elim (fun k => absurd k.2 h) (fun k => k.1), hb⟩)⟩
/-- What holds between the first calls. -/
structure DbK (E : Nat → Addr) (B : Nat) (w : World) (a b : Lt) (W : World) : Prop where
  below : Below w.heap.size w W
  oa : a.Ok W
  ob : b.Ok W
  env : Env codeGs B W E
  ml : Ml W
  ba : Blk W w.heap.size (ncells a) 24
  bb : Blk W (w.heap.size + 1) (ncells b) 24
/-- What holds of the own trees. -/
structure DbX (E : Nat → Addr) (B : Nat) (w : World) (x y : Lt) (px py : Nat) (W : World) : Prop where
  below : Below w.heap.size w W
  ox : x.Ok W
  oy : y.Ok W
  env : Env codeGs B W E
  ml : Ml W
  bx : Blk W px (ncells x) 24
  bby : Blk W py (ncells y) 24
section
variable {E : Nat → Addr} {B : Nat} {w W W' : World} {a b : Lt} {px py : Nat}
theorem DbK.later (h : DbK E B w a b W) (hb : Below W.heap.size W W') : DbK E B w a b W' :=
  ⟨h.below.trans (hb.mono h.below.size), h.oa.ob hb, h.ob.ob hb, h.env.ob hb, h.ml.ob hb, h.ba.below hb h.ba.lt, h.bb.below hb h.bb.lt⟩
theorem DbK.drew (h : DbK E B w a b W) : DbK E B w a b W.drew := h.later ((Below.refl _ _).drew)
theorem DbX.later (h : DbX E B w a b px py W) (hb : Below W.heap.size W W') : DbX E B w a b px py W' :=
  ⟨h.below.trans (hb.mono h.below.size), h.ox.ob hb, h.oy.ob hb, h.env.ob hb, h.ml.ob hb, h.bx.below hb h.bx.lt, h.bby.below hb h.bby.lt⟩
theorem DbK.c {ka da kb db : ByteArray} {ea eb : Bool} {va vb : Value} {ksa ksb : List (ByteArray × Lt)} (h : DbK E B w (.mk ka da ea va ksa) (.mk kb db eb vb ksb) W) :
    W.cell? ⟨w.heap.size, 0, none⟩ = some (.string ka) ∧ W.cell? ⟨w.heap.size, 1, none⟩ = some (.string da) ∧ W.cell? ⟨w.heap.size, 2, none⟩ = some (.bool ea) ∧ W.cell? ⟨w.heap.size, 3, none⟩ = some va ∧
    W.cell? ⟨w.heap.size + 1, 0, none⟩ = some (.string kb) ∧ W.cell? ⟨w.heap.size + 1, 1, none⟩ = some (.string db) ∧ W.cell? ⟨w.heap.size + 1, 2, none⟩ = some (.bool eb) ∧ W.cell? ⟨w.heap.size + 1, 3, none⟩ = some vb :=
  ⟨h.ba.cell (i := 0) rfl, h.ba.cell (i := 1) rfl, h.ba.cell (i := 2) rfl, h.ba.cell (i := 3) rfl, h.bb.cell (i := 0) rfl, h.bb.cell (i := 1) rfl, h.bb.cell (i := 2) rfl, h.bb.cell (i := 3) rfl⟩
theorem DbX.c {ka da kb db : ByteArray} {ea eb : Bool} {va vb : Value} {ksa ksb : List (ByteArray × Lt)} (h : DbX E B w (.mk ka da ea va ksa) (.mk kb db eb vb ksb) px py W) :
    W.cell? ⟨px, 0, none⟩ = some (.string ka) ∧ W.cell? ⟨px, 1, none⟩ = some (.string da) ∧ W.cell? ⟨px, 2, none⟩ = some (.bool ea) ∧ W.cell? ⟨px, 3, none⟩ = some va ∧
    W.cell? ⟨py, 0, none⟩ = some (.string kb) ∧ W.cell? ⟨py, 1, none⟩ = some (.string db) ∧ W.cell? ⟨py, 2, none⟩ = some (.bool eb) ∧ W.cell? ⟨py, 3, none⟩ = some vb :=
  ⟨h.bx.cell (i := 0) rfl, h.bx.cell (i := 1) rfl, h.bx.cell (i := 2) rfl, h.bx.cell (i := 3) rfl, h.bby.cell (i := 0) rfl, h.bby.cell (i := 1) rfl, h.bby.cell (i := 2) rfl, h.bby.cell (i := 3) rfl⟩
end

/-- What holds in the loop over the changes. -/
structure DbL (E : Nat → Addr) (B : Nat) (w : World) (x y : Lt) (px py : Nat) (ls : List (Ch Value)) (v : Value) (W : World) : Prop extends DbX E B w x y px py W where
  ch : ChI ls v W
theorem DbL.later {E : Nat → Addr} {B : Nat} {w W W' : World} {a b : Lt} {px py : Nat} {ls : List (Ch Value)} {v : Value} (h : DbL E B w a b px py ls v W) (hb : Below W.heap.size W W') : DbL E B w a b px py ls v W' := ⟨h.toDbX.later hb, h.ch.ob hb⟩
theorem GetP.two2 {E : Nat → Addr} {t : Lt} {s : ByteArray} {w w' : World} {e : Ending} (h : GetP E t s w e w') : TwoP (evc E) (getOf t.bare s) (fun y => y.In (fun b => w.heap.size ≤ b)) w e w' := by
  obtain ⟨hb, ⟨c, hc, hc0, h1, rfl⟩ | ⟨x, y, hx, -, rfl, hbr, ho, hi⟩⟩ := h
  · exact two_zero (by unfold Tr.bare; rw [getOf_map, hc]; rfl) hc0 h1 hb (ltZ_in _)
  · exact two_tree (by rw [hbr]; unfold Tr.bare; rw [getOf_map, hx]; rfl) ho hb (in_mono (fun b hb => hb.1) y hi)
/-- What a call of Get leaves: a node in a block of its own, an error. -/
def DbY (E : Nat → Addr) (B : Nat) (w : World) (x y : Lt) (px py : Nat) (ls : List (Ch Value)) (v : Value) (T : Nd) (s : ByteArray) (w0 : World) (p er : Value) (W : World) : Prop :=
  ∃ (q : Nat) (k d : ByteArray) (e : Bool) (a : Option Addr) (n : Nat) (ks : List (ByteArray × Lt)) (c : Nat), p = .pointer (some ⟨q, 0, none⟩) ∧ er = evc E c ∧ c ≤ 10 ∧ Blk W q [.string k, .string d, .bool e, .slice a ks.length n] 24 ∧
    (Tr.mk k d e (.slice a ks.length n) ks : Lt).Ok W ∧ RV (getOf T s) (Tr.mk k d e (.slice a ks.length n) ks : Lt).bare c ∧ DbL E B w x y px py ls v W ∧ Below w0.heap.size w0 W
theorem below_five {B : Nat} {w W : World} (h : Below B w W) {p : Nat} (hp : B ≤ p) (x0 x1 x2 x3 : Value) : Below B w ((((W.setCell ⟨p, 0, none⟩ x0).setCell ⟨p, 1, none⟩ x1).setCell ⟨p, 2, none⟩ x2).setCell ⟨p, 3, none⟩ x3) :=
  (((h.setCell (p := ⟨p, 0, none⟩) hp x0).setCell (p := ⟨p, 1, none⟩) hp x1).setCell (p := ⟨p, 2, none⟩) hp x2).setCell (p := ⟨p, 3, none⟩) hp x3
theorem rv_ok {R : Except Nat Nd} {Y : Nd} {c : Nat} (h : RV R Y c) : (∃ p, R = .ok p) ↔ c = 0 := by
  rcases h with ⟨h1, h2, -⟩ | ⟨h1, h2⟩
  · exact ⟨(fun ⟨p, hp⟩ => by rw [h1] at hp; cases hp), fun e => absurd e h2⟩
  · exact ⟨fun _ => h2, fun _ => ⟨Y, h1⟩⟩
theorem rv_val {R : Except Nat Nd} {Y : Nd} (h : RV R Y 0) : R = .ok Y := by
  rcases h with ⟨-, h2, -⟩ | ⟨h1, -⟩
  · exact absurd rfl h2
  · exact h1

set_option maxRecDepth 100000 in
set_option maxHeartbeats 40000000 in
theorem diffBack_true (E : Nat → Addr) (B : Nat) (a b : Lt) (w : World) (ha : a.Ok w) (hb : b.Ok w) (hE : Env codeGs B w E) (hM : Ml w) :
    Calls Tryd.prog 3 #[nval a, nval b] w fun e w' => e = .returned (.bool true) ∧ Below w.heap.size w w' := by
  obtain ⟨aa, ac, hav⟩ := ha.shape
  obtain ⟨ba, bc, hbv⟩ := hb.shape
  obtain ⟨ka, da, ea, va, ksa⟩ := a
  obtain ⟨kb, db, eb, vb, ksb⟩ := b
  simp only [Tr.v, Tr.kids] at hav hbv
  subst hav hbv
  have hK0 : DbK E B w (Tr.mk ka da ea (.slice aa ksa.length ac) ksa : Lt) (Tr.mk kb db eb (.slice ba ksb.length bc) ksb : Lt) ((w.alloc (.cells #[.string ka, .string da, .bool ea, .slice aa ksa.length ac] 24)).alloc (.cells #[.string kb, .string db, .bool eb, .slice ba ksb.length bc] 24)) := by
    have hB2 := two_below w #[.string ka, .string da, .bool ea, .slice aa ksa.length ac] #[.string kb, .string db, .bool eb, .slice ba ksb.length bc] 24
    have h1 := Blk.new w [.string ka, .string da, .bool ea, .slice aa ksa.length ac] 24
    have h2 := Blk.new (w.alloc (.cells #[.string ka, .string da, .bool ea, .slice aa ksa.length ac] 24)) [.string kb, .string db, .bool eb, .slice ba ksb.length bc] 24
    rw [show (w.alloc (.cells #[.string ka, .string da, .bool ea, .slice aa ksa.length ac] 24)).heap.size = w.heap.size + 1 by simp] at h2
    exact ⟨hB2, ha.ob hB2, hb.ob hB2, hE.ob hB2, hM.ob hB2, h1.alloc _, h2⟩
  clear ha hb hE hM
  obtain ⟨ra, hra, hra0, HLA⟩ := large_num5 (Tr.mk ka da ea (.slice aa ksa.length ac) ksa : Lt) 60 (by omega)
  obtain ⟨rb, hrb, hrb0, HLB⟩ := large_num5 (Tr.mk kb db eb (.slice ba ksb.length bc) ksb : Lt) 60 (by omega)
  have HOA := hidd (fun W (hs : ra = 0) (h : (Tr.mk ka da ea (.slice aa ksa.length ac) ksa : Lt).Ok W) => own_any 300 (Tr.mk ka da ea (.slice aa ksa.length ac) ksa : Lt) W (by have := (hra0.1 hs).small.many; omega) (Nat.le_refl _) h)
  have HOB := hidd (fun W (hs : rb = 0) (h : (Tr.mk kb db eb (.slice ba ksb.length bc) ksb : Lt).Ok W) => own_any 300 (Tr.mk kb db eb (.slice ba ksb.length bc) ksb : Lt) W (by have := (hrb0.1 hs).small.many; omega) (Nat.le_refl _) h)
  have HSA : Hid (ra = 0 → (Tr.mk ka da ea (.slice aa ksa.length ac) ksa : Lt).sz ≤ 60) := hidd (fun hs => (hra0.1 hs).small.many)
  have HSB : Hid (rb = 0 → (Tr.mk kb db eb (.slice ba ksb.length bc) ksb : Lt).sz ≤ 60) := hidd (fun hs => (hrb0.1 hs).small.many)
  simp only [nval, Tr.kind, Tr.data, Tr.exec, Tr.v, Int.cast_ofNat_Int] at HLA HLB HOA HOB ⊢
  have HK0 := hidd hK0
  clear hK0 hra0 hrb0
  go_enter Tryd.func3, Tryd.ntmps3
  go_wp2_with fail
  refine (differed_true E B _ HK0.out.env.tr).mono ?_
  rintro e w2 ⟨rfl, hb2⟩
  have hK2 := HK0.out.later hb2
  clear HK0 hb2
  go_wp2_with fail
  have hK2d := hK2.drew
  have ew1 : IntKind.i64.wrap (ra + rb) = ra + rb := by rw [IntKind.wrap_i64]; omega
  by_cases hlg : 0 < ra + rb
  · have e0 : decide (0 < ra + rb) = true := decide_eq_true hlg
    clear HOA HOB hK2 hlg hra hrb
    first
      | (go_region_held3 (fun W' => W'.cell? ⟨w.heap.size, 0, none⟩ = some (.string ka) ∧ W'.cell? ⟨w.heap.size, 1, none⟩ = some (.string da) ∧ W'.cell? ⟨w.heap.size, 2, none⟩ = some (.bool ea) ∧ W'.cell? ⟨w.heap.size, 3, none⟩ = some (.slice aa ksa.length ac) ∧ W'.cell? ⟨w.heap.size + 1, 0, none⟩ = some (.string kb) ∧ W'.cell? ⟨w.heap.size + 1, 1, none⟩ = some (.string db) ∧ W'.cell? ⟨w.heap.size + 1, 2, none⟩ = some (.bool eb) ∧ W'.cell? ⟨w.heap.size + 1, 3, none⟩ = some (.slice ba ksb.length bc))
          (first | exact DbK.c (by assumption))
          (first
            | (go_at_call 7; (with_reducible refine (HLA.out _ (DbK.oa (by assumption))).mono ?_); rintro e w' ⟨rfl, hbl⟩; have hq := DbK.later (by assumption) hbl)
            | (go_at_call 7; (with_reducible refine (HLB.out _ (DbK.ob (by assumption))).mono ?_); rintro e w' ⟨rfl, hbl⟩; have hq := DbK.later (by assumption) hbl)))
      | fail
    all_goals
      go_wp2_with fail
      go_ret
      exact ⟨rfl, DbK.below (by assumption)⟩
  · have hr0 : ra = 0 := by omega
    have hr1 : rb = 0 := by omega
    have e0 : decide (0 < ra + rb) = false := decide_eq_false hlg
    clear hlg
    first
      | (go_region_held3 (fun W' => W'.cell? ⟨w.heap.size, 0, none⟩ = some (.string ka) ∧ W'.cell? ⟨w.heap.size, 1, none⟩ = some (.string da) ∧ W'.cell? ⟨w.heap.size, 2, none⟩ = some (.bool ea) ∧ W'.cell? ⟨w.heap.size, 3, none⟩ = some (.slice aa ksa.length ac) ∧ W'.cell? ⟨w.heap.size + 1, 0, none⟩ = some (.string kb) ∧ W'.cell? ⟨w.heap.size + 1, 1, none⟩ = some (.string db) ∧ W'.cell? ⟨w.heap.size + 1, 2, none⟩ = some (.bool eb) ∧ W'.cell? ⟨w.heap.size + 1, 3, none⟩ = some (.slice ba ksb.length bc))
          (first | exact DbK.c (by assumption))
          (first
            | (go_at_call 7; (with_reducible refine (HLA.out _ (DbK.oa (by assumption))).mono ?_); rintro e w' ⟨rfl, hbl⟩; have hq := DbK.later (by assumption) hbl)
            | (go_at_call 7; (with_reducible refine (HLB.out _ (DbK.ob (by assumption))).mono ?_); rintro e w' ⟨rfl, hbl⟩; have hq := DbK.later (by assumption) hbl)))
      | fail
    have ew0 : IntKind.i64.wrap 0 = 0 := by rw [IntKind.wrap_i64]; omega
    have ew2 : decide ((0 : Int) < 0) = false := rfl
    have HQ3 := hidd hq
    have HOAf := hidd (fun W h => HOA.out W hr0 h)
    have HOBf := hidd (fun W h => HOB.out W hr1 h)
    have hsa := HSA.out hr0
    have hsb := HSB.out hr1
    clear HOA HOB HLA HLB hK2 hK2d hbl ew1 e0 hrb hra hq HSA HSB
    obtain ⟨c0, c1, c2, c3, -, -, -, -⟩ := DbK.c HQ3.out
    go_wp2_with fail
    refine (HOAf.out _ HQ3.out.oa).mono ?_
    rintro e w4 ⟨xa, xc, ksx, rfl, hbrx, hxo, -, hb4⟩
    simp only [Tr.kind, Tr.data, Tr.exec] at hbrx hxo ⊢
    have HBX := hidd hbrx
    have hA4 : Below w4.heap.size w4 (w4.alloc (.cells #[.string ka, .string da, .bool ea, .slice xa ksx.length xc] 24)) := (Below.refl _ _).alloc (Nat.le_refl _) _
    have HQ4 := hidd ((HQ3.out.later hb4).later hA4)
    have HXO := hidd (hxo.ob hA4)
    have HXB := hidd (Blk.new w4 [.string ka, .string da, .bool ea, .slice xa ksx.length xc] 24)
    clear c0 c1 c2 c3 hbrx hxo hb4 hA4 HOAf HQ3
    go_upto_region 5 with fail
    generalize w4.alloc (.cells #[.string ka, .string da, .bool ea, .slice xa ksx.length xc] 24) = w5 at *
    generalize w4.heap.size = px at *
    obtain ⟨-, -, -, -, c0, c1, c2, c3⟩ := DbK.c HQ4.out
    go_wp2_with fail
    refine (HOBf.out _ HQ4.out.ob).mono ?_
    rintro e w6 ⟨ya, yc, ksy, rfl, hbry, hyo, -, hb6⟩
    simp only [Tr.kind, Tr.data, Tr.exec] at hbry hyo ⊢
    have HBY := hidd hbry
    have hA6 : Below w6.heap.size w6 (w6.alloc (.cells #[.string kb, .string db, .bool eb, .slice ya ksy.length yc] 24)) := (Below.refl _ _).alloc (Nat.le_refl _) _
    have hQ6 := (HQ4.out.later hb6).later hA6
    have HX : Hid (DbX E B w (.mk ka da ea (.slice xa ksx.length xc) ksx) (.mk kb db eb (.slice ya ksy.length yc) ksy) px w6.heap.size (w6.alloc (.cells #[.string kb, .string db, .bool eb, .slice ya ksy.length yc] 24))) :=
      hidd ⟨hQ6.below, (HXO.out.ob hb6).ob hA6, hyo.ob hA6, hQ6.env, hQ6.ml, (HXB.out.below hb6 HXB.out.lt).below hA6 (HXB.out.below hb6 HXB.out.lt).lt, Blk.new w6 _ _⟩
    clear c0 c1 c2 c3 hbry hyo hb6 hA6 hQ6 HOBf HQ4 HXO HXB
    go_upto_region 6 with fail
    generalize w6.alloc (.cells #[.string kb, .string db, .bool eb, .slice ya ksy.length yc] 24) = w7 at *
    generalize w6.heap.size = py at *
    obtain ⟨T, hT⟩ : ∃ T : Nd, (Tr.mk ka da ea (.slice xa ksx.length xc) ksx : Lt).bare = T := ⟨_, rfl⟩
    obtain ⟨U, hU⟩ : ∃ U : Nd, (Tr.mk kb db eb (.slice ya ksy.length yc) ksy : Lt).bare = U := ⟨_, rfl⟩
    have hTs : T.sz ≤ 60 := by rw [← hT, HBX.out, sz_bare]; exact hsa
    have hUs : U.sz ≤ 60 := by rw [← hU, HBY.out, sz_bare]; exact hsb
    have HT := hidd hT
    have HU := hidd hU
    clear hsa hsb hT hU HBX HBY
    obtain ⟨c0, c1, c2, c3, d0, d1, d2, d3⟩ := DbX.c HX.out
    have HD := hidd (diff_any E B _ _ w7 HX.out.ox HX.out.oy HX.out.env.tr)
    rw [HT.out, HU.out] at HD
    simp only [nval, Tr.kind, Tr.data, Tr.exec, Tr.v] at HD
    go_wp2_with fail
    refine HD.out.mono ?_
    rintro e w8 ⟨hb8, hr⟩
    have HX8 := hidd (HX.out.later hb8)
    clear hb8 HX HD c0 c1 c2 c3 d0 d1 d2 d3
    rcases hr with ⟨c, hc, hc0, hc10, rfl⟩ | ⟨ls, v, hT0, hU0, rfl, hm, hch⟩
    · obtain ⟨ad, had⟩ := evc_some (E := E) hc0
      rw [had]
      have HB8 := hidd HX8.out.below
      clear hc hc0 had HX8
      go_wp2_with fail
      go_ret
      exact ⟨rfl, HB8.out⟩
    · obtain ⟨hap, hnil, hgood⟩ := diff_back hT0 hU0 (by omega)
      obtain ⟨va, vc, rfl, -⟩ := id hch.sl
      have hlen := hch.sl.le
      have HGD : Hid (∀ c ∈ ls, ((∃ p, getOf T c.path = .ok p) ↔ c.kind ≠ kAdd) ∧ ((∃ q, getOf U c.path = .ok q) ↔ c.kind ≠ kDrop) ∧ (∀ p q, getOf T c.path = .ok p → getOf U c.path = .ok q → p ≠ q) ∧ c.path.size ≤ 1000) := hidd (fun c hc => hgood c.bare (by rw [← hm]; exact List.mem_map_of_mem hc))
      have hap2 := apply_any E B _ _ ls w8 HX8.out.ox hch HX8.out.env HX8.out.ml (fun c hc => by have := (HGD.out c hc).2.2.2; omega)
      rw [HT.out, hm] at hap2
      have HAP := hidd hap2
      simp only [nval, Tr.kind, Tr.data, Tr.exec, Tr.v] at HAP
      have HAO := hidd hap
      have HT0 := hidd hT0
      have HU0 := hidd hU0
      have HL8 : Hid (DbL E B w (.mk ka da ea (.slice xa ksx.length xc) ksx) (.mk kb db eb (.slice ya ksy.length yc) ksy) px py ls (.slice va ls.length vc) w8) := hidd ⟨HX8.out, hch⟩
      have HNL : Hid (((ls.length : Int) == 0) = true ↔ T = U) := hidd (by
        rw [← hnil, ← hm]
        simp)
      obtain ⟨r, hr⟩ : ∃ r, ((ls.length : Int) == 0) = r := ⟨_, rfl⟩
      rw [hr] at HNL
      obtain ⟨c0, c1, c2, c3, -, -, -, -⟩ := DbX.c HX8.out
      clear hap hap2 hnil hgood hch hm HX8 hT0 hU0
      go_wp2_with fail
      refine HAP.out.mono ?_
      rintro e w9 ⟨hb9, hrs⟩
      rcases hrs with ⟨c, hc, hc0, -⟩ | ⟨-, c, i, f, hf, -⟩ | ⟨-, z, hz, rfl, hzo⟩
      · exact absurd (hc.trans HT0.out) hc0
      · rw [HAO.out] at hf; cases hf
      have hzu : z.bare = U := by rw [HAO.out] at hz; exact (Except.ok.inj hz).symm
      obtain ⟨za, zc, hzv⟩ := hzo.shape
      obtain ⟨kz, dz, ez, vz, ksz⟩ := z
      simp only [Tr.v, Tr.kids] at hzv
      subst hzv
      have HZU := hidd hzu
      simp only [nval, Tr.kind, Tr.data, Tr.exec, Tr.v]
      have hA9 : Below w9.heap.size w9 (w9.alloc (.cells #[.string kz, .string dz, .bool ez, .slice za ksz.length zc] 24)) := (Below.refl _ _).alloc (Nat.le_refl _) _
      have HL9 := hidd ((HL8.out.later hb9).later hA9)
      have HZO := hidd (hzo.ob hA9)
      have HZB := hidd (Blk.new w9 [.string kz, .string dz, .bool ez, .slice za ksz.length zc] 24)
      clear c0 c1 c2 c3 hb9 hA9 hzo hz hzu HL8 HAP HAO
      go_upto_region 10 with fail
      generalize w9.alloc (.cells #[.string kz, .string dz, .bool ez, .slice za ksz.length zc] 24) = w10 at *
      generalize w9.heap.size = pz at *
      obtain ⟨-, -, -, -, c0, c1, c2, c3⟩ := DbX.c HL9.out.toDbX
      have HD2 := hidd (diff_any E B _ _ w10 HL9.out.oy HL9.out.oy HL9.out.env.tr)
      rw [HU.out] at HD2
      simp only [nval, Tr.kind, Tr.data, Tr.exec, Tr.v] at HD2
      go_wp2_with fail
      refine HD2.out.mono ?_
      rintro e w11 ⟨hb11, hrs⟩
      rcases hrs with ⟨c, hc, hc0, -⟩ | ⟨ls2, v2, -, -, rfl, hm2, hch2⟩
      · exact absurd (by rcases hc with rfl | ⟨-, rfl⟩ <;> exact HU0.out) hc0
      obtain rfl : ls2 = [] := by
        have h1 : ls2.map Ch.bare = [] := by rw [hm2]; exact diffT_same _ _ _
        exact List.map_eq_nil_iff.1 h1
      obtain ⟨v2a, v2c, rfl, -⟩ := id hch2.sl
      have HL11 := hidd (HL9.out.later hb11)
      have HZO11 := hidd (HZO.out.ob hb11)
      have hzb := HZB.out.below hb11 HZB.out.lt
      clear c0 c1 c2 c3 hm2 hch2 HL9 HZO HD2 hb11 HZB
      obtain ⟨x0, x1, x2, x3, c0, c1, c2, c3⟩ := DbX.c HL11.out.toDbX
      have z0 := hzb.cell (i := 0) rfl
      have z1 := hzb.cell (i := 1) rfl
      have z2 := hzb.cell (i := 2) rfl
      have z3 := hzb.cell (i := 3) rfl
      have HS1 := hidd (same_any _ _ w11 true HZO11.out HL11.out.oy ⟨fun _ => HZU.out.trans HU.out.symm, fun _ => rfl⟩)
      simp only [nval, Tr.kind, Tr.data, Tr.exec, Tr.v] at HS1
      have e5 : (r == r) = true := by cases r <;> rfl
      have e6 : (r != r) = false := by cases r <;> rfl
      simp only [List.length_nil]
      clear hzb
      go_wp2_with fail
      refine HS1.out.mono ?_
      rintro e w12 ⟨rfl, hb12⟩
      have HL12 := hidd (HL11.out.later hb12)
      clear x0 x1 x2 x3 c0 c1 c2 c3 z0 z1 z2 z3 hb12 HS1 HL11 HZO11
      obtain ⟨x0, x1, x2, x3, c0, c1, c2, c3⟩ := DbX.c HL12.out.toDbX
      have HS2 := hidd (same_any _ _ w12 r HL12.out.ox HL12.out.oy (by rw [HT.out, HU.out]; exact HNL.out))
      simp only [nval, Tr.kind, Tr.data, Tr.exec, Tr.v] at HS2
      go_wp2_with fail
      refine HS2.out.mono ?_
      rintro e w13 ⟨rfl, hb13⟩
      have HL13 := hidd (HL12.out.later hb13)
      clear x0 x1 x2 x3 c0 c1 c2 c3 hb13 HS2 HL12 HNL
      go_wp2_with fail
      go_loopw [13, 14, 15, 16, 17] (fun vi _ _ _ _ wr => ∃ i : Nat, i ≤ ls.length ∧ vi = .int .i64 (i : Int) ∧ DbL E B w (.mk ka da ea (.slice xa ksx.length xc) ksx) (.mk kb db eb (.slice ya ksy.length yc) ksy) px py ls (.slice va ls.length vc) wr) (fun vi _ _ _ _ _ => ls.length - (intOf vi).toNat)
      case atStart => exact ⟨0, Nat.zero_le _, rfl, HL13.out⟩
      case round =>
        obtain ⟨i, hi, rfl, hq⟩ := hrel
        clear HL13
        by_cases hlt : i < ls.length
        · obtain ⟨b1, o1, rfl, hb1, a0, a1, -, -, -, -⟩ := sl_atc hq.ch.sl hlt
          obtain ⟨g1, g2, g3, g4⟩ := HGD.out _ (List.getElem_mem hlt)
          obtain ⟨c, hc⟩ : ∃ c, ls[i] = c := ⟨_, rfl⟩
          rw [hc] at a0 a1 g1 g2 g3 g4
          obtain ⟨kc, pc, nc⟩ := c
          simp only at a0 a1 g1 g2 g3 g4
          have HG1 := hidd g1
          have HG2 := hidd g2
          have HG3 := hidd g3
          have p1 : (0 : Int) ≤ (i : Int) := by omega
          have p2 : (i : Int) < (ls.length : Int) := by omega
          have HQ := hidd hq
          clear hc g1 g2 g3 hq
          have HSK : Hid (∀ W, Below wr.heap.size wr W → W.cell? ⟨b1, o1 + i * 6, none⟩ = some (.string kc) ∧ W.cell? ⟨b1, o1 + i * 6 + 1, none⟩ = some (.string pc)) := hidd (fun W h => ⟨(h.cell (p := ⟨b1, _, none⟩) hb1).trans a0, (h.cell (p := ⟨b1, _, none⟩) hb1).trans a1⟩)
          have HGX := hidd (fun W (h : DbL E B w (.mk ka da ea (.slice xa ksx.length xc) ksx) (.mk kb db eb (.slice ya ksy.length yc) ksy) px py ls (.slice (some ⟨b1, o1, none⟩) ls.length vc) W) => get_any E B _ pc W h.ox h.env.tr h.ml (by omega))
          have HGY := hidd (fun W (h : DbL E B w (.mk ka da ea (.slice xa ksx.length xc) ksx) (.mk kb db eb (.slice ya ksy.length yc) ksy) px py ls (.slice (some ⟨b1, o1, none⟩) ls.length vc) W) => get_any E B _ pc W h.oy h.env.tr h.ml (by omega))
          simp only [nval, Tr.kind, Tr.data, Tr.exec, Tr.v] at HGX HGY
          clear a0 a1 g4
          go_upto_region 16 with fail
          go_cut [14, 15] from 89 to 98 (fun p er wx => DbY E B w (.mk ka da ea (.slice xa ksx.length xc) ksx) (.mk kb db eb (.slice ya ksy.length yc) ksy) px py ls (.slice (some ⟨b1, o1, none⟩) ls.length vc) T pc wr p er wx)
          case first =>
            have hz0 : Below wr.heap.size wr wr.drew := (Below.refl _ _).drew
            have hzA : Below wr.heap.size wr (wr.alloc (.cells #[.string ⟨#[]⟩, .string ⟨#[]⟩, .bool false, .slice none 0 0] 24)).drew := ((Below.refl _ _).alloc (Nat.le_refl _) _).drew
            have hbA := Blk.drew (Blk.new wr [.string ⟨#[]⟩, .string ⟨#[]⟩, .bool false, .slice none 0 0] 24)
            have HSC : Hid (∀ W', Below wr.heap.size wr W' → W'.cell? ⟨px, 0, none⟩ = some (.string ka) ∧ W'.cell? ⟨px, 1, none⟩ = some (.string da) ∧ W'.cell? ⟨px, 2, none⟩ = some (.bool ea) ∧ W'.cell? ⟨px, 3, none⟩ = some (.slice xa ksx.length xc) ∧ W'.cell? ⟨b1, o1 + i * 6 + 1, none⟩ = some (.string pc)) := hidd (fun W' h => by
              obtain ⟨x0, x1, x2, x3, y0, y1, y2, y3⟩ := DbX.c (HQ.out.later h).toDbX
              exact ⟨x0, x1, x2, x3, (HSK.out _ h).2⟩)
            first
              | (go_region_held3 (fun W' => W'.cell? ⟨px, 0, none⟩ = some (.string ka) ∧ W'.cell? ⟨px, 1, none⟩ = some (.string da) ∧ W'.cell? ⟨px, 2, none⟩ = some (.bool ea) ∧ W'.cell? ⟨px, 3, none⟩ = some (.slice xa ksx.length xc) ∧ W'.cell? ⟨b1, o1 + i * 6 + 1, none⟩ = some (.string pc))
                  (first | exact HSC.out _ hz0 | exact HSC.out _ hzA | exact HSC.out _ hb6w | exact HSC.out _ (hb6w.alloc hb6w.size _) | exact HSC.out _ (below_five hb6w (Nat.le_refl _) _ _ _ _))
                  (first
                    | (go_at_call 12; (with_reducible refine (HGX.out _ (HQ.out.later hz0)).mono ?_); intro e w6 hyy; obtain ⟨k6, d6, e6', a6, n6, ks6, c6, he, hb6, hc6, ho6, hi6, hr6⟩ := (GetP.two2 hyy); subst he; have hb6w := hz0.trans hb6)
                    | (go_at_call 12; (with_reducible refine (HGX.out _ (HQ.out.later hzA)).mono ?_); intro e w6 hyy; obtain ⟨k6, d6, e6', a6, n6, ks6, c6, he, hb6, hc6, ho6, hi6, hr6⟩ := (GetP.two2 hyy); subst he; have hb6w := hzA.trans (hb6.mono hzA.size); have hbx := hbA.below hb6 hbA.lt; have u0 := hbx.cell (i := 0) rfl; have u1 := hbx.cell (i := 1) rfl; have u2 := hbx.cell (i := 2) rfl; have u3 := hbx.cell (i := 3) rfl; have v0 := hbx.frozen 0; have v1 := hbx.frozen 1; have v2 := hbx.frozen 2; have v3 := hbx.frozen 3)))
              | fail
            · have hr6' := hr6.out
              rw [HT.out] at hr6'
              have HF : Hid (DbY E B w (.mk ka da ea (.slice xa ksx.length xc) ksx) (.mk kb db eb (.slice ya ksy.length yc) ksy) px py ls (.slice (some ⟨b1, o1, none⟩) ls.length vc) T pc wr (.pointer (some ⟨w6.heap.size, 0, none⟩)) (evc E c6) (w6.alloc (.cells #[.string k6, .string d6, .bool e6', .slice a6 ks6.length n6] 24))) := hidd ⟨_, k6, d6, e6', a6, n6, ks6, c6, rfl, rfl, hc6, Blk.new w6 _ _, ho6.out.alloc _, hr6', HQ.out.later (hb6w.alloc hb6w.size _), hb6w.alloc hb6w.size _⟩
              clear hyy hb6 ho6 hi6 hr6 hr6' hb6w HSC hzA hbA hz0
              go_wp2_with fail
              go_meet
              exact HF.out
            · have hr6' := hr6.out
              rw [HT.out] at hr6'
              have hFx := (Fr.refl (fun b => b = wr.heap.size) w6).four (p := wr.heap.size) (.inl rfl) (.string k6) (.string d6) (.bool e6') (.slice a6 ks6.length n6)
              have hbX := hbx.four (x0 := .string k6) (x1 := .string d6) (x2 := .bool e6') (x3 := .slice a6 ks6.length n6)
              have hbel := below_five hb6w (Nat.le_refl _) (.string k6) (.string d6) (.bool e6') (.slice a6 ks6.length n6)
              have hok := ok_fr hFx _ ho6.out (in_mono (fun b hb e => by
                have h1 : (wr.alloc (.cells #[.string ⟨#[]⟩, .string ⟨#[]⟩, .bool false, .slice none 0 0] 24)).drew.heap.size ≤ b := hb
                have h2 : (wr.alloc (.cells #[.string ⟨#[]⟩, .string ⟨#[]⟩, .bool false, .slice none 0 0] 24)).drew.heap.size = wr.heap.size + 1 := by simp
                omega) _ hi6.out)
              have HF : Hid (DbY E B w (.mk ka da ea (.slice xa ksx.length xc) ksx) (.mk kb db eb (.slice ya ksy.length yc) ksy) px py ls (.slice (some ⟨b1, o1, none⟩) ls.length vc) T pc wr (.pointer (some ⟨wr.heap.size, 0, none⟩)) (evc E c6) ((((w6.setCell ⟨wr.heap.size, 0, none⟩ (.string k6)).setCell ⟨wr.heap.size, 1, none⟩ (.string d6)).setCell ⟨wr.heap.size, 2, none⟩ (.bool e6')).setCell ⟨wr.heap.size, 3, none⟩ (.slice a6 ks6.length n6))) := hidd ⟨_, k6, d6, e6', a6, n6, ks6, c6, rfl, rfl, hc6, hbX, hok, hr6', HQ.out.later hbel, hbel⟩
              clear hyy hb6 ho6 hi6 hr6 hr6' hb6w HSC hzA hbA hz0 hFx hbX hbel hok hbx u0 u1 u2 u3 v0 v1 v2 v3
              go_wp2_with fail
              go_meet
              exact HF.out
          case rest =>
            obtain ⟨wf, hwf⟩ : ∃ W, W = wc := ⟨_, rfl⟩
            subst hwf
            obtain ⟨q1, k1, d1, e1, a1, n1, ks1, c1, rfl, rfl, hc1, hbk1, hok1, hrv1, hq1, hbl1⟩ := hcut
            have HQ1 := hidd hq1
            have HBL1 := hidd hbl1
            have HBK1 := hidd hbk1
            have HOK1 := hidd hok1
            have HRV1 := hidd hrv1
            clear hbk1 hok1 hrv1 hq1 hbl1
            go_upto_region 17 with fail
            go_cut [16, 17] from 99 to 108 (fun p er wy => DbY E B w (.mk ka da ea (.slice xa ksx.length xc) ksx) (.mk kb db eb (.slice ya ksy.length yc) ksy) px py ls (.slice (some ⟨b1, o1, none⟩) ls.length vc) U pc wf p er wy)
            case first =>
              have hz0 : Below wf.heap.size wf wf.drew := (Below.refl _ _).drew
              have hzA : Below wf.heap.size wf (wf.alloc (.cells #[.string ⟨#[]⟩, .string ⟨#[]⟩, .bool false, .slice none 0 0] 24)).drew := ((Below.refl _ _).alloc (Nat.le_refl _) _).drew
              have hbA := Blk.drew (Blk.new wf [.string ⟨#[]⟩, .string ⟨#[]⟩, .bool false, .slice none 0 0] 24)
              have HSC : Hid (∀ W', Below wf.heap.size wf W' → W'.cell? ⟨py, 0, none⟩ = some (.string kb) ∧ W'.cell? ⟨py, 1, none⟩ = some (.string db) ∧ W'.cell? ⟨py, 2, none⟩ = some (.bool eb) ∧ W'.cell? ⟨py, 3, none⟩ = some (.slice ya ksy.length yc) ∧ W'.cell? ⟨b1, o1 + i * 6 + 1, none⟩ = some (.string pc)) := hidd (fun W' h => by
                obtain ⟨x0, x1, x2, x3, y0, y1, y2, y3⟩ := DbX.c (HQ1.out.later h).toDbX
                exact ⟨y0, y1, y2, y3, (HSK.out _ (HBL1.out.trans (h.mono HBL1.out.size))).2⟩)
              first
                | (go_region_held3 (fun W' => W'.cell? ⟨py, 0, none⟩ = some (.string kb) ∧ W'.cell? ⟨py, 1, none⟩ = some (.string db) ∧ W'.cell? ⟨py, 2, none⟩ = some (.bool eb) ∧ W'.cell? ⟨py, 3, none⟩ = some (.slice ya ksy.length yc) ∧ W'.cell? ⟨b1, o1 + i * 6 + 1, none⟩ = some (.string pc))
                    (first | exact HSC.out _ hz0 | exact HSC.out _ hzA | exact HSC.out _ hb6w | exact HSC.out _ (hb6w.alloc hb6w.size _) | exact HSC.out _ (below_five hb6w (Nat.le_refl _) _ _ _ _))
                    (first
                      | (go_at_call 12; (with_reducible refine (HGY.out _ (HQ1.out.later hz0)).mono ?_); intro e w6 hyy; obtain ⟨k6, d6, e6', a6, n6, ks6, c6, he, hb6, hc6, ho6, hi6, hr6⟩ := (GetP.two2 hyy); subst he; have hb6w := hz0.trans hb6)
                      | (go_at_call 12; (with_reducible refine (HGY.out _ (HQ1.out.later hzA)).mono ?_); intro e w6 hyy; obtain ⟨k6, d6, e6', a6, n6, ks6, c6, he, hb6, hc6, ho6, hi6, hr6⟩ := (GetP.two2 hyy); subst he; have hb6w := hzA.trans (hb6.mono hzA.size); have hbx := hbA.below hb6 hbA.lt; have u0 := hbx.cell (i := 0) rfl; have u1 := hbx.cell (i := 1) rfl; have u2 := hbx.cell (i := 2) rfl; have u3 := hbx.cell (i := 3) rfl; have v0 := hbx.frozen 0; have v1 := hbx.frozen 1; have v2 := hbx.frozen 2; have v3 := hbx.frozen 3)))
                | fail
              · have hr6' := hr6.out
                rw [HU.out] at hr6'
                have HF : Hid (DbY E B w (.mk ka da ea (.slice xa ksx.length xc) ksx) (.mk kb db eb (.slice ya ksy.length yc) ksy) px py ls (.slice (some ⟨b1, o1, none⟩) ls.length vc) U pc wf (.pointer (some ⟨w6.heap.size, 0, none⟩)) (evc E c6) (w6.alloc (.cells #[.string k6, .string d6, .bool e6', .slice a6 ks6.length n6] 24))) := hidd ⟨_, k6, d6, e6', a6, n6, ks6, c6, rfl, rfl, hc6, Blk.new w6 _ _, ho6.out.alloc _, hr6', HQ1.out.later (hb6w.alloc hb6w.size _), hb6w.alloc hb6w.size _⟩
                clear hyy hb6 ho6 hi6 hr6 hr6' hb6w HSC hzA hbA hz0
                go_wp2_with fail
                go_meet
                exact HF.out
              · have hr6' := hr6.out
                rw [HU.out] at hr6'
                have hFx := (Fr.refl (fun b => b = wf.heap.size) w6).four (p := wf.heap.size) (.inl rfl) (.string k6) (.string d6) (.bool e6') (.slice a6 ks6.length n6)
                have hbX := hbx.four (x0 := .string k6) (x1 := .string d6) (x2 := .bool e6') (x3 := .slice a6 ks6.length n6)
                have hbel := below_five hb6w (Nat.le_refl _) (.string k6) (.string d6) (.bool e6') (.slice a6 ks6.length n6)
                have hok := ok_fr hFx _ ho6.out (in_mono (fun b hb e => by
                  have h1 : (wf.alloc (.cells #[.string ⟨#[]⟩, .string ⟨#[]⟩, .bool false, .slice none 0 0] 24)).drew.heap.size ≤ b := hb
                  have h2 : (wf.alloc (.cells #[.string ⟨#[]⟩, .string ⟨#[]⟩, .bool false, .slice none 0 0] 24)).drew.heap.size = wf.heap.size + 1 := by simp
                  omega) _ hi6.out)
                have HF : Hid (DbY E B w (.mk ka da ea (.slice xa ksx.length xc) ksx) (.mk kb db eb (.slice ya ksy.length yc) ksy) px py ls (.slice (some ⟨b1, o1, none⟩) ls.length vc) U pc wf (.pointer (some ⟨wf.heap.size, 0, none⟩)) (evc E c6) ((((w6.setCell ⟨wf.heap.size, 0, none⟩ (.string k6)).setCell ⟨wf.heap.size, 1, none⟩ (.string d6)).setCell ⟨wf.heap.size, 2, none⟩ (.bool e6')).setCell ⟨wf.heap.size, 3, none⟩ (.slice a6 ks6.length n6))) := hidd ⟨_, k6, d6, e6', a6, n6, ks6, c6, rfl, rfl, hc6, hbX, hok, hr6', HQ1.out.later hbel, hbel⟩
                clear hyy hb6 ho6 hi6 hr6 hr6' hb6w HSC hzA hbA hz0 hFx hbX hbel hok hbx u0 u1 u2 u3 v0 v1 v2 v3
                go_wp2_with fail
                go_meet
                exact HF.out
            case rest =>
              obtain ⟨q2, k2, d2, e2, a2, n2, ks2, c2, rfl, rfl, hc2, hbk2, hok2, hrv2, hq2, hbl2⟩ := hcut
              have hblw := HBL1.out.trans (hbl2.mono HBL1.out.size)
              obtain ⟨a0, -⟩ := HSK.out _ hblw
              have hbk1 := HBK1.out.below hbl2 HBK1.out.lt
              have hcA := (rv_ok HRV1.out).symm.trans HG1.out
              have hcB := (rv_ok hrv2).symm.trans HG2.out
              have HQ2 := hidd hq2
              have HO1 := hidd (HOK1.out.ob hbl2)
              have HO2 := hidd hok2
              have HRV2 := hidd hrv2
              clear hblw hbl2 hq2 hok2 hrv2 HQ HSK HGX HGY HQ1 HBL1 HBK1 HOK1 HG1 HG2
              by_cases hka : kc = kAdd
              · have hn1 : c1 ≠ 0 := fun e => hcA.1 e hka
                have hz2 : c2 = 0 := hcB.2 (by rw [hka]; exact kDrop_ne.symm)
                subst hz2
                obtain ⟨ad, had⟩ := evc_some (E := E) hn1
                rw [had, evc_zero]
                have t1 : (kc.toList == [97, 100, 100]) = true := by rw [hka, kAdd_list]; rfl
                have t2 : (kc.toList == [100, 114, 111, 112]) = false := by rw [← kDrop_list]; exact beq_str (fun e => kDrop_ne (e.symm.trans hka))
                clear hka hn1 had hcA hcB hbk1 hbk2
                go_upto_region 18 with fail
                go_quiet (fail)
                have HQZ := hidd (HQ2.out.later (Below.drewN _ _ nq))
                go_wp2_with fail
                go_roundw
                case rel => exact ⟨i + 1, by omega, by go_num, HQZ.out⟩
                case measure => simp [intOf]; omega
              · by_cases hkd : kc = kDrop
                · have hz1 : c1 = 0 := hcA.2 hka
                  have hn2 : c2 ≠ 0 := fun e => hcB.1 e hkd
                  subst hz1
                  obtain ⟨ad, had⟩ := evc_some (E := E) hn2
                  rw [had, evc_zero]
                  have t1 : (kc.toList == [97, 100, 100]) = false := by rw [← kAdd_list]; exact beq_str hka
                  have t2 : (kc.toList == [100, 114, 111, 112]) = true := by rw [hkd, kDrop_list]; rfl
                  clear hka hkd hn2 had hcA hcB hbk1 hbk2
                  go_upto_region 18 with fail
                  go_quiet (fail)
                  have HQZ := hidd (HQ2.out.later (Below.drewN _ _ nq))
                  go_wp2_with fail
                  go_roundw
                  case rel => exact ⟨i + 1, by omega, by go_num, HQZ.out⟩
                  case measure => simp [intOf]; omega
                · have hz1 : c1 = 0 := hcA.2 hka
                  have hz2 : c2 = 0 := hcB.2 hkd
                  subst hz1 hz2
                  rw [evc_zero]
                  have t1 : (kc.toList == [97, 100, 100]) = false := by rw [← kAdd_list]; exact beq_str hka
                  have t2 : (kc.toList == [100, 114, 111, 112]) = false := by rw [← kDrop_list]; exact beq_str hkd
                  have hne := HG3.out _ _ (rv_val HRV1.out) (rv_val HRV2.out)
                  have x0 := hbk1.cell (i := 0) rfl
                  have x1 := hbk1.cell (i := 1) rfl
                  have x2 := hbk1.cell (i := 2) rfl
                  have x3 := hbk1.cell (i := 3) rfl
                  have z0 := hbk2.cell (i := 0) rfl
                  have z1 := hbk2.cell (i := 1) rfl
                  have z2 := hbk2.cell (i := 2) rfl
                  have z3 := hbk2.cell (i := 3) rfl
                  have HSM := hidd (fun W (h : Below wc.heap.size wc W) => same_any _ _ W false (HO1.out.ob h) (HO2.out.ob h) ⟨fun e => (by cases e), fun e => absurd e hne⟩)
                  simp only [nval, Tr.kind, Tr.data, Tr.exec, Tr.v] at HSM
                  clear hka hkd hcA hcB hbk1 hbk2 hne
                  go_upto_region 18 with fail
                  go_quiet (fail)
                  go_wp2_with fail
                  refine (HSM.out _ (Below.drewN _ _ _)).mono ?_
                  rintro e wz ⟨rfl, hbz⟩
                  have HQZ := hidd ((HQ2.out.later (Below.drewN _ _ _)).later hbz)
                  clear hbz x0 x1 x2 x3 z0 z1 z2 z3 HSM
                  go_wp2_with fail
                  go_roundw
                  case rel => exact ⟨i + 1, by omega, by go_num, HQZ.out⟩
                  case measure => simp [intOf]; omega
        · go_wp2_with fail
          go_ret
          exact ⟨rfl, hq.below⟩
end Go.Proofs.YtoaedkinlnkkhaaDoor
