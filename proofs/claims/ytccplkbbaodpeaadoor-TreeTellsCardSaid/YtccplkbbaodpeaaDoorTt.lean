/- stillroomlaw1.TreeTells, walked. Condition: the trees are there, the variables read as listed. -/
import Derived.Test.YtccplkbbaodpeaaDoorRfC
import Derived.Test.YtccplkbbaodpeaaDoorTrT
import Derived.Test.YtccplkbbaodpeaaDoorTrD
import Derived.Test.YtccplkbbaodpeaaDoorTrE
import Derived.Test.YtccplkbbaodpeaaDoorTrO
namespace Go.Proofs.YtccplkbbaodpeaaDoor
open Go.RowKit Go.Shelf

theorem coded_evc {E : Nat → Addr} {c : Nat} (h : c ≤ 13) : Coded E (evc E c) c := by
  by_cases h0 : c = 0
  · subst h0; exact .inl ⟨rfl, rfl⟩
  · exact .inr ⟨c - 1, by omega, by omega, if_neg h0⟩
theorem large_yes (t : Lt) (most : Nat) (w : World) (ht : t.Ok w) (hm : most ≤ 300) (h : SmallL most t) :
    Calls Tryd.prog 7 #[nval t, .int .i64 (most : Int)] w fun e w' => e = .returned (.int .i64 0) ∧ Below w.heap.size w w' :=
  (large_fn t most w ht hm).mono fun _ _ ⟨k, hb⟩ => ⟨k.elim (fun k => k.1) (fun k => absurd h k.2), hb⟩
theorem large_no (t : Lt) (most : Nat) (w : World) (ht : t.Ok w) (hm : most ≤ 300) (h : ¬ SmallL most t) :
    Calls Tryd.prog 7 #[nval t, .int .i64 (most : Int)] w fun e w' => e = .returned (.int .i64 1) ∧ Below w.heap.size w w' :=
  (large_fn t most w ht hm).mono fun _ _ ⟨k, hb⟩ => ⟨k.elim (fun k => absurd k.2 h) (fun k => k.1), hb⟩

/-- What holds between the calls. -/
structure TtK (E : Nat → Addr) (B : Nat) (w : World) (a b : Lt) (W : World) : Prop where
  below : Below w.heap.size w W
  oa : a.Ok W
  ob : b.Ok W
  env : Env codeGs B W E
  hnd : Hnd W
  ba : Blk W w.heap.size (ncells a) 24
  bb : Blk W (w.heap.size + 1) (ncells b) 24
section
variable {E : Nat → Addr} {B : Nat} {w W W' : World} {a b x y : Lt} {px py : Nat}
theorem TtK.later (h : TtK E B w a b W) (hb : Below W.heap.size W W') : TtK E B w a b W' :=
  ⟨h.below.trans (hb.mono h.below.size), h.oa.ob hb, h.ob.ob hb, h.env.ob hb, h.hnd.below hb (Nat.le_refl _), h.ba.below hb h.ba.lt, h.bb.below hb h.bb.lt⟩
theorem TtK.drew (h : TtK E B w a b W) : TtK E B w a b W.drew := h.later ((Below.refl _ _).drew)
theorem TtK.c {ka da kb db : ByteArray} {ea eb : Bool} {va vb : Value} {ksa ksb : List (ByteArray × Lt)} (h : TtK E B w (.mk ka da ea va ksa) (.mk kb db eb vb ksb) W) :
    W.cell? ⟨w.heap.size, 0, none⟩ = some (.string ka) ∧ W.cell? ⟨w.heap.size, 1, none⟩ = some (.string da) ∧ W.cell? ⟨w.heap.size, 2, none⟩ = some (.bool ea) ∧ W.cell? ⟨w.heap.size, 3, none⟩ = some va ∧
    W.cell? ⟨w.heap.size + 1, 0, none⟩ = some (.string kb) ∧ W.cell? ⟨w.heap.size + 1, 1, none⟩ = some (.string db) ∧ W.cell? ⟨w.heap.size + 1, 2, none⟩ = some (.bool eb) ∧ W.cell? ⟨w.heap.size + 1, 3, none⟩ = some vb :=
  ⟨h.ba.cell (i := 0) rfl, h.ba.cell (i := 1) rfl, h.ba.cell (i := 2) rfl, h.ba.cell (i := 3) rfl, h.bb.cell (i := 0) rfl, h.bb.cell (i := 1) rfl, h.bb.cell (i := 2) rfl, h.bb.cell (i := 3) rfl⟩
/-- And two own ones. -/
structure TtX (E : Nat → Addr) (B : Nat) (w : World) (a b x y : Lt) (px py : Nat) (W : World) : Prop extends TtK E B w a b W where
  ox : x.Ok W
  oy : y.Ok W
  bx : Blk W px (ncells x) 24
  bY : Blk W py (ncells y) 24
theorem TtX.later (h : TtX E B w a b x y px py W) (hb : Below W.heap.size W W') : TtX E B w a b x y px py W' :=
  ⟨h.toTtK.later hb, h.ox.ob hb, h.oy.ob hb, h.bx.below hb h.bx.lt, h.bY.below hb h.bY.lt⟩
theorem TtX.drew (h : TtX E B w a b x y px py W) : TtX E B w a b x y px py W.drew := h.later ((Below.refl _ _).drew)
theorem TtX.c {ka da kb db kx dx ky dy : ByteArray} {ea eb ex ey : Bool} {va vb vx vy : Value} {ksa ksb ksx ksy : List (ByteArray × Lt)} (h : TtX E B w (.mk ka da ea va ksa) (.mk kb db eb vb ksb) (.mk kx dx ex vx ksx) (.mk ky dy ey vy ksy) px py W) :
    W.cell? ⟨w.heap.size, 0, none⟩ = some (.string ka) ∧ W.cell? ⟨w.heap.size, 1, none⟩ = some (.string da) ∧ W.cell? ⟨w.heap.size, 2, none⟩ = some (.bool ea) ∧ W.cell? ⟨w.heap.size, 3, none⟩ = some va ∧
    W.cell? ⟨px, 0, none⟩ = some (.string kx) ∧ W.cell? ⟨px, 1, none⟩ = some (.string dx) ∧ W.cell? ⟨px, 2, none⟩ = some (.bool ex) ∧ W.cell? ⟨px, 3, none⟩ = some vx ∧
    W.cell? ⟨py, 0, none⟩ = some (.string ky) ∧ W.cell? ⟨py, 1, none⟩ = some (.string dy) ∧ W.cell? ⟨py, 2, none⟩ = some (.bool ey) ∧ W.cell? ⟨py, 3, none⟩ = some vy :=
  ⟨h.ba.cell (i := 0) rfl, h.ba.cell (i := 1) rfl, h.ba.cell (i := 2) rfl, h.ba.cell (i := 3) rfl, h.bx.cell (i := 0) rfl, h.bx.cell (i := 1) rfl, h.bx.cell (i := 2) rfl, h.bx.cell (i := 3) rfl,
    h.bY.cell (i := 0) rfl, h.bY.cell (i := 1) rfl, h.bY.cell (i := 2) rfl, h.bY.cell (i := 3) rfl⟩
end

set_option maxRecDepth 100000 in
set_option maxHeartbeats 40000000 in
theorem treeTells_true (E : Nat → Addr) (B : Nat) (a b : Lt) (s : ByteArray) (w : World) (ha : a.Ok w) (hb : b.Ok w) (hs : s.size ≤ 9223372036854775807) (hE : Env codeGs B w E) (hh : Hnd w) :
    Calls Tryd.prog 3 #[nval a, nval b, .string s] w fun e w' => e = .returned (.bool true) ∧ Below w.heap.size w w' := by
  obtain ⟨aa, ac, hav⟩ := ha.shape
  obtain ⟨ba, bc, hbv⟩ := hb.shape
  obtain ⟨ka, da, ea, va, ksa⟩ := a
  obtain ⟨kb, db, eb, vb, ksb⟩ := b
  simp only [Tr.v, Tr.kids] at hav hbv
  subst hav hbv
  have hK0 : TtK E B w (Tr.mk ka da ea (.slice aa ksa.length ac) ksa : Lt) (Tr.mk kb db eb (.slice ba ksb.length bc) ksb : Lt) ((w.alloc (.cells #[.string ka, .string da, .bool ea, .slice aa ksa.length ac] 24)).alloc (.cells #[.string kb, .string db, .bool eb, .slice ba ksb.length bc] 24)) := by
    have hB1 : Below w.heap.size w (w.alloc (.cells #[.string ka, .string da, .bool ea, .slice aa ksa.length ac] 24)) := (Below.refl _ _).alloc (Nat.le_refl _) _
    have hB2 := hB1.alloc hB1.size (.cells #[.string kb, .string db, .bool eb, .slice ba ksb.length bc] 24)
    have h1 := Blk.new w [.string ka, .string da, .bool ea, .slice aa ksa.length ac] 24
    have h2 := Blk.new (w.alloc (.cells #[.string ka, .string da, .bool ea, .slice aa ksa.length ac] 24)) [.string kb, .string db, .bool eb, .slice ba ksb.length bc] 24
    rw [show (w.alloc (.cells #[.string ka, .string da, .bool ea, .slice aa ksa.length ac] 24)).heap.size = w.heap.size + 1 by simp] at h2
    exact ⟨hB2, ha.ob hB2, hb.ob hB2, hE.ob hB2, hh.below hB2 (Nat.le_refl _), h1.alloc _, h2⟩
  clear ha hb hE hh
  have HAY : Hid (SmallL 230 (Tr.mk ka da ea (.slice aa ksa.length ac) ksa : Lt) → ∀ W, TtK E B w (Tr.mk ka da ea (.slice aa ksa.length ac) ksa : Lt) (Tr.mk kb db eb (.slice ba ksb.length bc) ksb : Lt) W → _) := hidd (fun hs W (h : TtK E B w (Tr.mk ka da ea (.slice aa ksa.length ac) ksa : Lt) (Tr.mk kb db eb (.slice ba ksb.length bc) ksb : Lt) W) => large_yes (Tr.mk ka da ea (.slice aa ksa.length ac) ksa : Lt) 230 W h.oa (by omega) hs)
  have HAN : Hid (¬ SmallL 230 (Tr.mk ka da ea (.slice aa ksa.length ac) ksa : Lt) → ∀ W, TtK E B w (Tr.mk ka da ea (.slice aa ksa.length ac) ksa : Lt) (Tr.mk kb db eb (.slice ba ksb.length bc) ksb : Lt) W → _) := hidd (fun hs W (h : TtK E B w (Tr.mk ka da ea (.slice aa ksa.length ac) ksa : Lt) (Tr.mk kb db eb (.slice ba ksb.length bc) ksb : Lt) W) => large_no (Tr.mk ka da ea (.slice aa ksa.length ac) ksa : Lt) 230 W h.oa (by omega) hs)
  have HBY : Hid (SmallL 230 (Tr.mk kb db eb (.slice ba ksb.length bc) ksb : Lt) → ∀ W, TtK E B w (Tr.mk ka da ea (.slice aa ksa.length ac) ksa : Lt) (Tr.mk kb db eb (.slice ba ksb.length bc) ksb : Lt) W → _) := hidd (fun hs W (h : TtK E B w (Tr.mk ka da ea (.slice aa ksa.length ac) ksa : Lt) (Tr.mk kb db eb (.slice ba ksb.length bc) ksb : Lt) W) => large_yes (Tr.mk kb db eb (.slice ba ksb.length bc) ksb : Lt) 230 W h.ob (by omega) hs)
  have HBN : Hid (¬ SmallL 230 (Tr.mk kb db eb (.slice ba ksb.length bc) ksb : Lt) → ∀ W, TtK E B w (Tr.mk ka da ea (.slice aa ksa.length ac) ksa : Lt) (Tr.mk kb db eb (.slice ba ksb.length bc) ksb : Lt) W → _) := hidd (fun hs W (h : TtK E B w (Tr.mk ka da ea (.slice aa ksa.length ac) ksa : Lt) (Tr.mk kb db eb (.slice ba ksb.length bc) ksb : Lt) W) => large_no (Tr.mk kb db eb (.slice ba ksb.length bc) ksb : Lt) 230 W h.ob (by omega) hs)
  have HOA := hidd (fun W (hs : SmallL 230 (Tr.mk ka da ea (.slice aa ksa.length ac) ksa : Lt)) (h : (Tr.mk ka da ea (.slice aa ksa.length ac) ksa : Lt).Ok W) => own_any 300 (Tr.mk ka da ea (.slice aa ksa.length ac) ksa : Lt) W (by have := hs.small.many; omega) (Nat.le_refl _) h)
  have HOB := hidd (fun W (hs : SmallL 230 (Tr.mk kb db eb (.slice ba ksb.length bc) ksb : Lt)) (h : (Tr.mk kb db eb (.slice ba ksb.length bc) ksb : Lt).Ok W) => own_any 300 (Tr.mk kb db eb (.slice ba ksb.length bc) ksb : Lt) W (by have := hs.small.many; omega) (Nat.le_refl _) h)
  simp only [nval, Tr.kind, Tr.data, Tr.exec, Tr.v, Int.cast_ofNat_Int] at HAY HAN HBY HBN HOA HOB ⊢
  have HK0 := hidd hK0
  clear hK0
  go_enter Tryd.func3, Tryd.ntmps3
  go_wp2_with fail
  refine (treed_true E B _ HK0.out.env HK0.out.hnd).mono ?_
  rintro e w2 ⟨rfl, hb2⟩
  have hK2 := HK0.out.later hb2
  clear HK0 hb2
  go_wp2_with fail
  have hK2d := hK2.drew
  have ew1 : IntKind.i64.wrap 1 = 1 := by rfl
  have ew2 : IntKind.i64.wrap 2 = 2 := by rfl
  have ew3 : IntKind.i64.wrap (1 + 1) = 2 := by rfl
  have ew4 : IntKind.i64.wrap (0 + 1) = 1 := by rfl
  have ew5 : IntKind.i64.wrap (1 + 0) = 1 := by rfl
  by_cases hA : SmallL 230 (Tr.mk ka da ea (.slice aa ksa.length ac) ksa : Lt)
  · have HAY' := hidd (HAY.out hA)
    by_cases hB : SmallL 230 (Tr.mk kb db eb (.slice ba ksb.length bc) ksb : Lt)
    · have HBY' := hidd (HBY.out hB)
      have HSA := hidd hA
      have HSB := hidd hB
      clear HAY HAN HBY HBN hA hB
      by_cases hL : s.size ≤ 40
      · have e40 : decide ((40 : Int) < (s.size : Int)) = false := decide_eq_false (by omega)
        first
          | (go_region_held3 (fun W' => W'.cell? ⟨w.heap.size, 0, none⟩ = some (.string ka) ∧ W'.cell? ⟨w.heap.size, 1, none⟩ = some (.string da) ∧ W'.cell? ⟨w.heap.size, 2, none⟩ = some (.bool ea) ∧ W'.cell? ⟨w.heap.size, 3, none⟩ = some (.slice aa ksa.length ac) ∧ W'.cell? ⟨w.heap.size + 1, 0, none⟩ = some (.string kb) ∧ W'.cell? ⟨w.heap.size + 1, 1, none⟩ = some (.string db) ∧ W'.cell? ⟨w.heap.size + 1, 2, none⟩ = some (.bool eb) ∧ W'.cell? ⟨w.heap.size + 1, 3, none⟩ = some (.slice ba ksb.length bc))
              (first | exact TtK.c (by assumption))
              (first
                | (go_at_call 7; (with_reducible refine (HAY'.out _ (by assumption)).mono ?_); rintro e w' ⟨rfl, hbl⟩; have hq := TtK.later (by assumption) hbl)
                | (go_at_call 7; (with_reducible refine (HBY'.out _ (by assumption)).mono ?_); rintro e w' ⟨rfl, hbl⟩; have hq := TtK.later (by assumption) hbl)))
          | fail
        have hq3 := hq
        clear HAY' HBY' hK2 hK2d hL e40
        obtain ⟨c0, c1, c2, c3, c4, c5, c6, c7⟩ := TtK.c hq3
        go_wp2_with fail
        refine (HOA.out _ HSA.out hq3.oa).mono ?_
        rintro e w4 ⟨xa, xc, ksx, rfl, hbrx, hox, -, hb4⟩
        have hqx := (hq3.later hb4).later ((Below.refl w4.heap.size w4).alloc (Nat.le_refl _) (.cells #[.string ka, .string da, .bool ea, .slice xa ksx.length xc] 24))
        have hox := hox.alloc (.cells #[.string ka, .string da, .bool ea, .slice xa ksx.length xc] 24)
        have hbx := Blk.new w4 [.string ka, .string da, .bool ea, .slice xa ksx.length xc] 24
        simp only [Tr.kind, Tr.data, Tr.exec] at hbrx hox ⊢
        clear c0 c1 c2 c3 c4 c5 c6 c7 hq3 hq hb4 HOA HSA
        obtain ⟨c0, c1, c2, c3, c4, c5, c6, c7⟩ := TtK.c hqx
        go_wp2_with fail
        refine (HOB.out _ HSB.out hqx.ob).mono ?_
        rintro e w5 ⟨ya, yc, ksy, rfl, hbry, hoy, -, hb5⟩
        have hox5 := hox.ob hb5
        have hbx5 := hbx.below hb5 hbx.lt
        have hby := Blk.new w5 [.string kb, .string db, .bool eb, .slice ya ksy.length yc] 24
        have hq5 : TtX E B w (Tr.mk ka da ea (.slice aa ksa.length ac) ksa : Lt) (Tr.mk kb db eb (.slice ba ksb.length bc) ksb : Lt) (Tr.mk ka da ea (.slice xa ksx.length xc) ksx : Lt) (Tr.mk kb db eb (.slice ya ksy.length yc) ksy : Lt) w4.heap.size w5.heap.size (w5.alloc (.cells #[.string kb, .string db, .bool eb, .slice ya ksy.length yc] 24)) := ⟨(hqx.later hb5).later ((Below.refl w5.heap.size w5).alloc (Nat.le_refl _) _), hox5.alloc _, hoy.alloc _, hbx5.alloc _, hby⟩
        simp only [Tr.kind, Tr.data, Tr.exec] at hbry ⊢
        clear c0 c1 c2 c3 c4 c5 c6 c7 hox hbx hqx hb5 HOB HSB hoy hox5 hbx5 hby
        obtain ⟨c0, c1, c2, c3, x0, x1, x2, x3, y0, y1, y2, y3⟩ := TtX.c hq5
        obtain ⟨-, -, -, -, b0, b1, b2, b3⟩ := TtK.c hq5.toTtK
        obtain ⟨r, hr⟩ : ∃ r : Bool, r = true ↔ (Tr.mk ka da ea (.slice aa ksa.length ac) ksa : Lt).bare = (Tr.mk kb db eb (.slice ba ksb.length bc) ksb : Lt).bare := by
          classical
          exact ⟨decide ((Tr.mk ka da ea (.slice aa ksa.length ac) ksa : Lt).bare = (Tr.mk kb db eb (.slice ba ksb.length bc) ksb : Lt).bare), by simp⟩
        have hr2 : r = true ↔ (Tr.mk ka da ea (.slice xa ksx.length xc) ksx : Lt).bare = (Tr.mk kb db eb (.slice ya ksy.length yc) ksy : Lt).bare := by rw [hbrx, hbry]; exact hr
        obtain ⟨l1, l2, l3, l4⟩ := listed_bare hbrx
        have HSE := hidd (fun W (h : TtX E B w (Tr.mk ka da ea (.slice aa ksa.length ac) ksa : Lt) (Tr.mk kb db eb (.slice ba ksb.length bc) ksb : Lt) (Tr.mk ka da ea (.slice xa ksx.length xc) ksx : Lt) (Tr.mk kb db eb (.slice ya ksy.length yc) ksy : Lt) w4.heap.size w5.heap.size W) => sameTree_any (Tr.mk ka da ea (.slice aa ksa.length ac) ksa : Lt).sz (Tr.mk ka da ea (.slice aa ksa.length ac) ksa : Lt) (Tr.mk kb db eb (.slice ba ksb.length bc) ksb : Lt) W r (Nat.le_refl _) h.oa h.ob hr)
        have HCK := hidd (fun W (h : TtX E B w (Tr.mk ka da ea (.slice aa ksa.length ac) ksa : Lt) (Tr.mk kb db eb (.slice ba ksb.length bc) ksb : Lt) (Tr.mk ka da ea (.slice xa ksx.length xc) ksx : Lt) (Tr.mk kb db eb (.slice ya ksy.length yc) ksy : Lt) w4.heap.size w5.heap.size W) => check_any E B (Tr.mk ka da ea (.slice xa ksx.length xc) ksx : Lt) W h.ox h.env)
        have HTE := hidd (fun W (h : TtX E B w (Tr.mk ka da ea (.slice aa ksa.length ac) ksa : Lt) (Tr.mk kb db eb (.slice ba ksb.length bc) ksb : Lt) (Tr.mk ka da ea (.slice xa ksx.length xc) ksx : Lt) (Tr.mk kb db eb (.slice ya ksy.length yc) ksy : Lt) w4.heap.size w5.heap.size W) => treeErr_any (Tr.mk ka da ea (.slice aa ksa.length ac) ksa : Lt) W h.oa)
        have HSM := hidd (fun W (h : TtX E B w (Tr.mk ka da ea (.slice aa ksa.length ac) ksa : Lt) (Tr.mk kb db eb (.slice ba ksb.length bc) ksb : Lt) (Tr.mk ka da ea (.slice xa ksx.length xc) ksx : Lt) (Tr.mk kb db eb (.slice ya ksy.length yc) ksy : Lt) w4.heap.size w5.heap.size W) => same_any (Tr.mk ka da ea (.slice xa ksx.length xc) ksx : Lt) (Tr.mk kb db eb (.slice ya ksy.length yc) ksy : Lt) W r h.ox h.oy hr2)
        have HCN := hidd (fun W (h : TtX E B w (Tr.mk ka da ea (.slice aa ksa.length ac) ksa : Lt) (Tr.mk kb db eb (.slice ba ksb.length bc) ksb : Lt) (Tr.mk ka da ea (.slice xa ksx.length xc) ksx : Lt) (Tr.mk kb db eb (.slice ya ksy.length yc) ksy : Lt) w4.heap.size w5.heap.size W) => count_any E B (Tr.mk ka da ea (.slice xa ksx.length xc) ksx : Lt) W h.ox h.env)
        have HCO := hidd (fun W (h : TtX E B w (Tr.mk ka da ea (.slice aa ksa.length ac) ksa : Lt) (Tr.mk kb db eb (.slice ba ksb.length bc) ksb : Lt) (Tr.mk ka da ea (.slice xa ksx.length xc) ksx : Lt) (Tr.mk kb db eb (.slice ya ksy.length yc) ksy : Lt) w4.heap.size w5.heap.size W) => countOf_any (Tr.mk ka da ea (.slice aa ksa.length ac) ksa : Lt) W h.oa)
        have HSZ := hidd (fun W (h : TtX E B w (Tr.mk ka da ea (.slice aa ksa.length ac) ksa : Lt) (Tr.mk kb db eb (.slice ba ksb.length bc) ksb : Lt) (Tr.mk ka da ea (.slice xa ksx.length xc) ksx : Lt) (Tr.mk kb db eb (.slice ya ksy.length yc) ksy : Lt) w4.heap.size w5.heap.size W) => size_any E B (Tr.mk ka da ea (.slice xa ksx.length xc) ksx : Lt) W h.ox h.env)
        have HSO := hidd (fun W (h : TtX E B w (Tr.mk ka da ea (.slice aa ksa.length ac) ksa : Lt) (Tr.mk kb db eb (.slice ba ksb.length bc) ksb : Lt) (Tr.mk ka da ea (.slice xa ksx.length xc) ksx : Lt) (Tr.mk kb db eb (.slice ya ksy.length yc) ksy : Lt) w4.heap.size w5.heap.size W) => sizeOf_any (Tr.mk ka da ea (.slice aa ksa.length ac) ksa : Lt) W h.oa)
        have HFL := hidd (fun W (h : TtX E B w (Tr.mk ka da ea (.slice aa ksa.length ac) ksa : Lt) (Tr.mk kb db eb (.slice ba ksb.length bc) ksb : Lt) (Tr.mk ka da ea (.slice xa ksx.length xc) ksx : Lt) (Tr.mk kb db eb (.slice ya ksy.length yc) ksy : Lt) w4.heap.size w5.heap.size W) => files_any E B (Tr.mk ka da ea (.slice xa ksx.length xc) ksx : Lt) W h.ox h.env)
        have HFO := hidd (fun W (h : TtX E B w (Tr.mk ka da ea (.slice aa ksa.length ac) ksa : Lt) (Tr.mk kb db eb (.slice ba ksb.length bc) ksb : Lt) (Tr.mk ka da ea (.slice xa ksx.length xc) ksx : Lt) (Tr.mk kb db eb (.slice ya ksy.length yc) ksy : Lt) w4.heap.size w5.heap.size W) => filesOf_any (Tr.mk ka da ea (.slice aa ksa.length ac) ksa : Lt) W h.oa)
        have hc13 : treeE (Tr.mk ka da ea (.slice aa ksa.length ac) ksa : Lt) ≤ 13 := by have := scan_bd (pre ⟨#[]⟩ 0 (Tr.mk ka da ea (.slice aa ksa.length ac) ksa : Lt)) 0; unfold treeE; omega
        rw [l4] at HCK
        rw [l1] at HCN
        rw [l2] at HSZ
        rw [l3] at HFL
        obtain ⟨ce, hce⟩ : ∃ c, treeE (Tr.mk ka da ea (.slice aa ksa.length ac) ksa : Lt) = c := ⟨_, rfl⟩
        obtain ⟨N1, hN1⟩ : ∃ c, (listed (Tr.mk ka da ea (.slice aa ksa.length ac) ksa : Lt)).length = c := ⟨_, rfl⟩
        obtain ⟨N2, hN2⟩ : ∃ c, fileSz (listed (Tr.mk ka da ea (.slice aa ksa.length ac) ksa : Lt)) = c := ⟨_, rfl⟩
        obtain ⟨L, hL⟩ : ∃ c, fileL (listed (Tr.mk ka da ea (.slice aa ksa.length ac) ksa : Lt)) = c := ⟨_, rfl⟩
        rw [hce] at HCK HTE hc13
        rw [hN1] at HCN HCO
        rw [hN2] at HSZ HSO
        rw [hL] at HFL HFO
        have HCD := hidd (fun W (h : TtX E B w (Tr.mk ka da ea (.slice aa ksa.length ac) ksa : Lt) (Tr.mk kb db eb (.slice ba ksb.length bc) ksb : Lt) (Tr.mk ka da ea (.slice xa ksx.length xc) ksx : Lt) (Tr.mk kb db eb (.slice ya ksy.length yc) ksy : Lt) w4.heap.size w5.heap.size W) => (coded1 E B W h.env h.hnd (evc E ce) ce (coded_evc hc13) (ce : Int)).mono (R' := fun e w' => e = .returned (.bool true) ∧ Below W.heap.size W w') fun e w' ⟨h1, h2⟩ => ⟨by rw [h1, decide_eq_true rfl], h2⟩)
        have HNM := hidd (fun W (_ : TtX E B w (Tr.mk ka da ea (.slice aa ksa.length ac) ksa : Lt) (Tr.mk kb db eb (.slice ba ksb.length bc) ksb : Lt) (Tr.mk ka da ea (.slice xa ksx.length xc) ksx : Lt) (Tr.mk kb db eb (.slice ya ksy.length yc) ksy : Lt) w4.heap.size w5.heap.size W) => name_any s W hs)
        have HIS := hidd (fun W => isName_any s W hs)
        obtain ⟨nm, hnm⟩ : ∃ c, isName s = c := ⟨_, rfl⟩
        rw [hnm] at HNM HIS
        unfold NodE at HTE
        simp only [nval, Tr.kind, Tr.data, Tr.exec, Tr.v] at HSE HCK HTE HSM HCN HCO HSZ HSO HFL HFO
        clear l1 l2 l3 l4 hbrx hbry hr hr2 hce hN1 hN2 hL hnm hc13
        go_wp2_with fail
        refine (HIS.out _).mono ?_
        rintro e w6 ⟨rfl, rfl⟩
        go_wp2_with fail
        refine (HSE.out _ hq5).mono ?_
        rintro e w7 ⟨rfl, hb7⟩
        have hq7 := hq5.later hb7
        clear c0 c1 c2 c3 x0 x1 x2 x3 y0 y1 y2 y3 b0 b1 b2 b3 hq5 hb7 HSE HIS
        go_wp2_with fail
        have hq7d := hq7.drew
        clear hq7
        first
          | (go_region_held3 (fun W' => W'.cell? ⟨w.heap.size, 0, none⟩ = some (.string ka) ∧ W'.cell? ⟨w.heap.size, 1, none⟩ = some (.string da) ∧ W'.cell? ⟨w.heap.size, 2, none⟩ = some (.bool ea) ∧ W'.cell? ⟨w.heap.size, 3, none⟩ = some (.slice aa ksa.length ac) ∧ W'.cell? ⟨w4.heap.size, 0, none⟩ = some (.string ka) ∧ W'.cell? ⟨w4.heap.size, 1, none⟩ = some (.string da) ∧ W'.cell? ⟨w4.heap.size, 2, none⟩ = some (.bool ea) ∧ W'.cell? ⟨w4.heap.size, 3, none⟩ = some (.slice xa ksx.length xc) ∧ W'.cell? ⟨w5.heap.size, 0, none⟩ = some (.string kb) ∧ W'.cell? ⟨w5.heap.size, 1, none⟩ = some (.string db) ∧ W'.cell? ⟨w5.heap.size, 2, none⟩ = some (.bool eb) ∧ W'.cell? ⟨w5.heap.size, 3, none⟩ = some (.slice ya ksy.length yc))
              (first | exact TtX.c (by assumption))
              (first
                | (go_at_call 12; (with_reducible refine (HCK.out _ (by assumption)).mono ?_); rintro e w' ⟨rfl, hbl⟩; have hq := TtX.later (by assumption) hbl)
                | (go_at_call 13; (with_reducible refine (HTE.out _ (by assumption)).mono ?_); rintro e w' ⟨rfl, hbl⟩; have hq := TtX.later (by assumption) hbl)
                | (go_at_call 11; (with_reducible refine (HCD.out _ (by assumption)).mono ?_); rintro e w' ⟨rfl, hbl⟩; have hq := TtX.later (by assumption) hbl)
                | (go_at_call 14; (with_reducible refine (HSM.out _ (by assumption)).mono ?_); rintro e w' ⟨rfl, hbl⟩; have hq := TtX.later (by assumption) hbl)
                | (go_at_call 15; (with_reducible refine (HNM.out _ (by assumption)).mono ?_); rintro e w' ⟨rfl, hbl⟩; have hq := TtX.later (by assumption) hbl)))
          | fail
        clear HCK HTE HCD HSM HNM
        go_wp2_with fail
        have hq8 := TtX.drew hq
        first
          | (go_region_held3 (fun W' => W'.cell? ⟨w.heap.size, 0, none⟩ = some (.string ka) ∧ W'.cell? ⟨w.heap.size, 1, none⟩ = some (.string da) ∧ W'.cell? ⟨w.heap.size, 2, none⟩ = some (.bool ea) ∧ W'.cell? ⟨w.heap.size, 3, none⟩ = some (.slice aa ksa.length ac) ∧ W'.cell? ⟨w4.heap.size, 0, none⟩ = some (.string ka) ∧ W'.cell? ⟨w4.heap.size, 1, none⟩ = some (.string da) ∧ W'.cell? ⟨w4.heap.size, 2, none⟩ = some (.bool ea) ∧ W'.cell? ⟨w4.heap.size, 3, none⟩ = some (.slice xa ksx.length xc) ∧ W'.cell? ⟨w5.heap.size, 0, none⟩ = some (.string kb) ∧ W'.cell? ⟨w5.heap.size, 1, none⟩ = some (.string db) ∧ W'.cell? ⟨w5.heap.size, 2, none⟩ = some (.bool eb) ∧ W'.cell? ⟨w5.heap.size, 3, none⟩ = some (.slice ya ksy.length yc))
              (first | exact TtX.c (by assumption))
              (first
                | (go_at_call 16; (with_reducible refine (HCN.out _ (by assumption)).mono ?_); rintro e w' ⟨rfl, hbl⟩; have hq := TtX.later (by assumption) hbl)
                | (go_at_call 17; (with_reducible refine (HCO.out _ (by assumption)).mono ?_); rintro e w' ⟨rfl, hbl⟩; have hq := TtX.later (by assumption) hbl)
                | (go_at_call 18; (with_reducible refine (HSZ.out _ (by assumption)).mono ?_); rintro e w' ⟨rfl, hbl⟩; have hq := TtX.later (by assumption) hbl)
                | (go_at_call 19; (with_reducible refine (HSO.out _ (by assumption)).mono ?_); rintro e w' ⟨rfl, hbl⟩; have hq := TtX.later (by assumption) hbl)
                | (go_at_call 21; (with_reducible refine (HFL.out _ (by assumption)).mono ?_); rintro e w' ⟨fv1, rfl, ho1, hbl⟩; have hq := TtX.later (by assumption) hbl)
                | (go_at_call 22; (with_reducible refine (HFO.out _ (by assumption)).mono ?_); rintro e w' ⟨fv2, rfl, ho2, hbl⟩; have hq := TtX.later (by assumption) hbl; have hs1 := (ho1.ob hbl).sl; have hs2 := ho2.sl)
                | (go_at_call 20; (with_reducible refine (sameTexts_any fv1 fv2 L L _ hs1 hs2).mono ?_); rintro e w' ⟨rfl, hbl⟩; have hq := TtX.later (by assumption) hbl; rw [show decide (L = L) = true from decide_eq_true rfl])))
          | fail
        go_wp2_with fail
        go_ret
        exact ⟨rfl, hq.below⟩
      · have e40 : decide ((40 : Int) < (s.size : Int)) = true := decide_eq_true (by omega)
        first
          | (go_region_held3 (fun W' => W'.cell? ⟨w.heap.size, 0, none⟩ = some (.string ka) ∧ W'.cell? ⟨w.heap.size, 1, none⟩ = some (.string da) ∧ W'.cell? ⟨w.heap.size, 2, none⟩ = some (.bool ea) ∧ W'.cell? ⟨w.heap.size, 3, none⟩ = some (.slice aa ksa.length ac) ∧ W'.cell? ⟨w.heap.size + 1, 0, none⟩ = some (.string kb) ∧ W'.cell? ⟨w.heap.size + 1, 1, none⟩ = some (.string db) ∧ W'.cell? ⟨w.heap.size + 1, 2, none⟩ = some (.bool eb) ∧ W'.cell? ⟨w.heap.size + 1, 3, none⟩ = some (.slice ba ksb.length bc))
              (first | exact TtK.c (by assumption))
              (first
                | (go_at_call 7; (with_reducible refine (HAY'.out _ (by assumption)).mono ?_); rintro e w' ⟨rfl, hbl⟩; have hq := TtK.later (by assumption) hbl)
                | (go_at_call 7; (with_reducible refine (HBY'.out _ (by assumption)).mono ?_); rintro e w' ⟨rfl, hbl⟩; have hq := TtK.later (by assumption) hbl)))
          | fail
        go_wp2_with fail
        go_ret
        exact ⟨rfl, TtK.below (by assumption)⟩
    · have HBN' := hidd (HBN.out hB)
      clear HAY HAN HBY HBN hA hB
      obtain ⟨c0, c1, c2, c3, c4, c5, c6, c7⟩ := TtK.c hK2d
      clear HOA HOB hK2
      first
        | (go_region_law (first
            | (go_simp; go_at_call 7; (with_reducible refine (HAY'.out _ (by assumption)).mono ?_); rintro e w' ⟨rfl, hbl⟩; have hq := TtK.later (by assumption) hbl; obtain ⟨d0, d1, d2, d3, d4, d5, d6, d7⟩ := TtK.c hq)
            | (go_simp; go_at_call 7; (with_reducible refine (HBN'.out _ (by assumption)).mono ?_); rintro e w' ⟨rfl, hbl⟩; have hq := TtK.later (by assumption) hbl; obtain ⟨d0, d1, d2, d3, d4, d5, d6, d7⟩ := TtK.c hq)))
        | fail
      all_goals
        go_wp2_with fail
        go_ret
        exact ⟨rfl, TtK.below (by assumption)⟩
  · have HAN' := hidd (HAN.out hA)
    by_cases hB : SmallL 230 (Tr.mk kb db eb (.slice ba ksb.length bc) ksb : Lt)
    · have HBY' := hidd (HBY.out hB)
      clear HAY HAN HBY HBN hA hB
      obtain ⟨c0, c1, c2, c3, c4, c5, c6, c7⟩ := TtK.c hK2d
      clear HOA HOB hK2
      first
        | (go_region_law (first
            | (go_simp; go_at_call 7; (with_reducible refine (HAN'.out _ (by assumption)).mono ?_); rintro e w' ⟨rfl, hbl⟩; have hq := TtK.later (by assumption) hbl; obtain ⟨d0, d1, d2, d3, d4, d5, d6, d7⟩ := TtK.c hq)
            | (go_simp; go_at_call 7; (with_reducible refine (HBY'.out _ (by assumption)).mono ?_); rintro e w' ⟨rfl, hbl⟩; have hq := TtK.later (by assumption) hbl; obtain ⟨d0, d1, d2, d3, d4, d5, d6, d7⟩ := TtK.c hq)))
        | fail
      all_goals
        go_wp2_with fail
        go_ret
        exact ⟨rfl, TtK.below (by assumption)⟩
    · have HBN' := hidd (HBN.out hB)
      clear HAY HAN HBY HBN hA hB
      obtain ⟨c0, c1, c2, c3, c4, c5, c6, c7⟩ := TtK.c hK2d
      clear HOA HOB hK2
      first
        | (go_region_law (first
            | (go_simp; go_at_call 7; (with_reducible refine (HAN'.out _ (by assumption)).mono ?_); rintro e w' ⟨rfl, hbl⟩; have hq := TtK.later (by assumption) hbl; obtain ⟨d0, d1, d2, d3, d4, d5, d6, d7⟩ := TtK.c hq)
            | (go_simp; go_at_call 7; (with_reducible refine (HBN'.out _ (by assumption)).mono ?_); rintro e w' ⟨rfl, hbl⟩; have hq := TtK.later (by assumption) hbl; obtain ⟨d0, d1, d2, d3, d4, d5, d6, d7⟩ := TtK.c hq)))
        | fail
      all_goals
        go_wp2_with fail
        go_ret
        exact ⟨rfl, TtK.below (by assumption)⟩
end Go.Proofs.YtccplkbbaodpeaaDoor
