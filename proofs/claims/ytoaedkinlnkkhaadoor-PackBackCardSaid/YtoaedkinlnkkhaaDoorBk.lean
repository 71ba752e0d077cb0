/- stillroomlaw1.PackBack, walked. Condition: the trees are there, the variables and the library's tables read as listed. -/
import Derived.Test.YtoaedkinlnkkhaaDoorBkP
namespace Go.Proofs.YtoaedkinlnkkhaaDoor
open Go.RowKit

/-- What holds between the calls. -/
structure BkK (w : World) (a b : Lt) (W : World) : Prop where
  below : Below w.heap.size w W
  oa : a.Ok W
  ob : b.Ok W
  ba : Blk W w.heap.size (ncells a) 24
  bb : Blk W (w.heap.size + 1) (ncells b) 24
theorem BkK.later {w W W' : World} {a b : Lt} (h : BkK w a b W) (hb : Below W.heap.size W W') : BkK w a b W' :=
  ⟨h.below.trans (hb.mono h.below.size), h.oa.ob hb, h.ob.ob hb, h.ba.below hb h.ba.lt, h.bb.below hb h.bb.lt⟩
theorem BkK.drew {w W : World} {a b : Lt} (h : BkK w a b W) : BkK w a b W.drew := h.later ((Below.refl _ _).drew)
theorem BkK.c {w W : World} {ka da kb db : ByteArray} {ea eb : Bool} {va vb : Value} {ksa ksb : List (ByteArray × Lt)} (h : BkK w (.mk ka da ea va ksa) (.mk kb db eb vb ksb) W) :
    W.cell? ⟨w.heap.size, 0, none⟩ = some (.string ka) ∧ W.cell? ⟨w.heap.size, 1, none⟩ = some (.string da) ∧ W.cell? ⟨w.heap.size, 2, none⟩ = some (.bool ea) ∧ W.cell? ⟨w.heap.size, 3, none⟩ = some va ∧
    W.cell? ⟨w.heap.size + 1, 0, none⟩ = some (.string kb) ∧ W.cell? ⟨w.heap.size + 1, 1, none⟩ = some (.string db) ∧ W.cell? ⟨w.heap.size + 1, 2, none⟩ = some (.bool eb) ∧ W.cell? ⟨w.heap.size + 1, 3, none⟩ = some vb :=
  ⟨h.ba.cell (i := 0) rfl, h.ba.cell (i := 1) rfl, h.ba.cell (i := 2) rfl, h.ba.cell (i := 3) rfl, h.bb.cell (i := 0) rfl, h.bb.cell (i := 1) rfl, h.bb.cell (i := 2) rfl, h.bb.cell (i := 3) rfl⟩
/-- And two own ones. -/
structure BkX (w : World) (x y : Lt) (px py : Nat) (W : World) : Prop where
  below : Below w.heap.size w W
  ox : x.Ok W
  oy : y.Ok W
  bx : Blk W px (ncells x) 24
  bY : Blk W py (ncells y) 24
theorem BkX.later {w W W' : World} {x y : Lt} {px py : Nat} (h : BkX w x y px py W) (hb : Below W.heap.size W W') : BkX w x y px py W' :=
  ⟨h.below.trans (hb.mono h.below.size), h.ox.ob hb, h.oy.ob hb, h.bx.below hb h.bx.lt, h.bY.below hb h.bY.lt⟩
theorem BkX.c {w W : World} {kx dx ky dy : ByteArray} {ex ey : Bool} {vx vy : Value} {ksx ksy : List (ByteArray × Lt)} {px py : Nat} (h : BkX w (.mk kx dx ex vx ksx) (.mk ky dy ey vy ksy) px py W) :
    W.cell? ⟨px, 0, none⟩ = some (.string kx) ∧ W.cell? ⟨px, 1, none⟩ = some (.string dx) ∧ W.cell? ⟨px, 2, none⟩ = some (.bool ex) ∧ W.cell? ⟨px, 3, none⟩ = some vx ∧
    W.cell? ⟨py, 0, none⟩ = some (.string ky) ∧ W.cell? ⟨py, 1, none⟩ = some (.string dy) ∧ W.cell? ⟨py, 2, none⟩ = some (.bool ey) ∧ W.cell? ⟨py, 3, none⟩ = some vy :=
  ⟨h.bx.cell (i := 0) rfl, h.bx.cell (i := 1) rfl, h.bx.cell (i := 2) rfl, h.bx.cell (i := 3) rfl, h.bY.cell (i := 0) rfl, h.bY.cell (i := 1) rfl, h.bY.cell (i := 2) rfl, h.bY.cell (i := 3) rfl⟩
theorem BkX.set4 {w W : World} {x y : Lt} {px py p : Nat} {c0 c1 c2 c3 : Value} (h : BkX w x y px py W) (hb : Blk W p [c0, c1, c2, c3] 24) (hx : px ≠ p) (hy : py ≠ p) (hp : w.heap.size ≤ p) (x0 x1 x2 x3 : Value) :
    BkX w x y px py ((((W.setCell ⟨p, 0, none⟩ x0).setCell ⟨p, 1, none⟩ x1).setCell ⟨p, 2, none⟩ x2).setCell ⟨p, 3, none⟩ x3) :=
  ⟨below_set4 h.below hp x0 x1 x2 x3, ok_set4 hb h.ox x0 x1 x2 x3, ok_set4 hb h.oy x0 x1 x2 x3, h.bx.fr ((Fr.refl (fun b => b = p) W).set4 (.inl rfl) x0 x1 x2 x3) hx, h.bY.fr ((Fr.refl (fun b => b = p) W).set4 (.inl rfl) x0 x1 x2 x3) hy⟩

set_option maxRecDepth 100000 in
set_option maxHeartbeats 40000000 in
theorem packBack_true (E : Nat → Addr) (B : Nat) (a b : Lt) (s : ByteArray) (w : World) (ha : a.Ok w) (hb : b.Ok w) (hs : s.size ≤ 9223372036854775807) (hE : Env trGs B w E) (hT : TEnv w) :
    Calls Tryd.prog 4 #[nval a, nval b, .string s] w fun e w' => e = .returned (.bool true) ∧ Below w.heap.size w w' := by
  obtain ⟨aa, ac, hav⟩ := ha.shape
  obtain ⟨ba, bc, hbv⟩ := hb.shape
  obtain ⟨ka, da, ea, va, ksa⟩ := a
  obtain ⟨kb, db, eb, vb, ksb⟩ := b
  simp only [Tr.v, Tr.kids] at hav hbv
  subst hav hbv
  have hK0 : BkK w (Tr.mk ka da ea (.slice aa ksa.length ac) ksa : Lt) (Tr.mk kb db eb (.slice ba ksb.length bc) ksb : Lt) ((w.alloc (.cells #[.string ka, .string da, .bool ea, .slice aa ksa.length ac] 24)).alloc (.cells #[.string kb, .string db, .bool eb, .slice ba ksb.length bc] 24)) := by
    have hB1 : Below w.heap.size w (w.alloc (.cells #[.string ka, .string da, .bool ea, .slice aa ksa.length ac] 24)) := (Below.refl _ _).alloc (Nat.le_refl _) _
    have hB2 := hB1.alloc hB1.size (.cells #[.string kb, .string db, .bool eb, .slice ba ksb.length bc] 24)
    have h1 := Blk.new w [.string ka, .string da, .bool ea, .slice aa ksa.length ac] 24
    have h2 := Blk.new (w.alloc (.cells #[.string ka, .string da, .bool ea, .slice aa ksa.length ac] 24)) [.string kb, .string db, .bool eb, .slice ba ksb.length bc] 24
    rw [show (w.alloc (.cells #[.string ka, .string da, .bool ea, .slice aa ksa.length ac] 24)).heap.size = w.heap.size + 1 by simp] at h2
    exact ⟨hB2, ha.ob hB2, hb.ob hB2, h1.alloc _, h2⟩
  have HPA := hidd (packed_true E B _ (hT.low hK0.below) (hE.ob hK0.below))
  obtain ⟨ra, hra, hra0, HLA⟩ := large_num6 (Tr.mk ka da ea (.slice aa ksa.length ac) ksa : Lt) 100 (by omega)
  obtain ⟨rb, hrb, hrb0, HLB⟩ := large_num6 (Tr.mk kb db eb (.slice ba ksb.length bc) ksb : Lt) 100 (by omega)
  have HOA := hidd (fun W (hs : ra = 0) (h : (Tr.mk ka da ea (.slice aa ksa.length ac) ksa : Lt).Ok W) => own_any 300 (Tr.mk ka da ea (.slice aa ksa.length ac) ksa : Lt) W (by have := (hra0.1 hs).small.many; omega) (Nat.le_refl _) h)
  have HOB := hidd (fun W (hs : rb = 0) (h : (Tr.mk kb db eb (.slice ba ksb.length bc) ksb : Lt).Ok W) => own_any 300 (Tr.mk kb db eb (.slice ba ksb.length bc) ksb : Lt) W (by have := (hrb0.1 hs).small.many; omega) (Nat.le_refl _) h)
  obtain ⟨An, hAn⟩ : ∃ x : Nd, (Tr.mk ka da ea (.slice aa ksa.length ac) ksa : Lt).bare = x := ⟨_, rfl⟩
  obtain ⟨Bn, hBn⟩ : ∃ x : Nd, (Tr.mk kb db eb (.slice ba ksb.length bc) ksb : Lt).bare = x := ⟨_, rfl⟩
  have hlA : treeE An = 0 → (bstr (textL An)).size ≤ 500000 := fun h => by
    rw [← hAn] at h ⊢
    rw [show textL (Tr.bare (Tr.mk ka da ea (.slice aa ksa.length ac) ksa : Lt)) = textL (Tr.mk ka da ea (.slice aa ksa.length ac) ksa : Lt) from textL_map _ _]
    exact right_len (by rw [← h]; exact (treeE_map _ _).symm)
  have hlB : treeE Bn = 0 → (bstr (textL Bn)).size ≤ 500000 := fun h => by
    rw [← hBn] at h ⊢
    rw [show textL (Tr.bare (Tr.mk kb db eb (.slice ba ksb.length bc) ksb : Lt)) = textL (Tr.mk kb db eb (.slice ba ksb.length bc) ksb : Lt) from textL_map _ _]
    exact right_len (by rw [← h]; exact (treeE_map _ _).symm)
  have HCK := hidd (fun W (x : Lt) (n : Nd) (h : Below w.heap.size w W) (hx : x.Ok W) (hb : x.bare = n) => (check_tr E B x W hx (hE.ob h)).mono (R' := fun e w' => e = .returned (evc E (treeE n)) ∧ Below W.heap.size W w') fun e w' ⟨h1, h2⟩ => ⟨by rw [h1, ← hb]; exact congrArg (fun c => Ending.returned (evc E c)) (treeE_map _ _).symm, h2⟩)
  have HTX := hidd (fun W (x : Lt) (n : Nd) (h : Below w.heap.size w W) (hx : x.Ok W) (hb : x.bare = n) (h0 : treeE n = 0) => (text_any E B x W hx (hE.ob h) (hT.low h)).mono (R' := fun e w' => e = .returned (.string (bstr (textL n))) ∧ Below W.heap.size W w') fun e w' ⟨h1, h2⟩ => ⟨by rw [h1, textB_bare hb, textB, if_pos h0], h2⟩)
  have HRD := hidd (fun W (S : ByteArray) (hsz : S.size ≤ 4000000) (h : Below w.heap.size w W) => read_pk E B S W hsz (hT.low h) (hE.ob h))
  have HFT := hidd (fun W (S : ByteArray) (hsz : S.size ≤ 4000000) (h : Below w.heap.size w W) => first_pk E B S W hsz (hT.low h) (hE.ob h))
  have HSM := hidd (fun W (kd da : ByteArray) (ex : Bool) (a : Option Addr) (cap : Nat) (ks : List (ByteArray × Lt)) (kd' da' : ByteArray) (ex' : Bool) (a' : Option Addr) (cap' : Nat) (ks' : List (ByteArray × Lt)) (x y : Nd) (r : Bool) (hr : r = true ↔ x = y) (h1 : (Tr.mk kd da ex (.slice a ks.length cap) ks : Lt).Ok W) (h2 : (Tr.mk kd' da' ex' (.slice a' ks'.length cap') ks' : Lt).Ok W) (e1 : (Tr.mk kd da ex (.slice a ks.length cap) ks : Lt).bare = x) (e2 : (Tr.mk kd' da' ex' (.slice a' ks'.length cap') ks' : Lt).bare = y) =>
    same_any (Tr.mk kd da ex (.slice a ks.length cap) ks : Lt) (Tr.mk kd' da' ex' (.slice a' ks'.length cap') ks' : Lt) W r h1 h2 (by rw [e1, e2]; exact hr))
  simp only [nval, Tr.kind, Tr.data, Tr.exec, Tr.v, Int.cast_ofNat_Int] at HLA HLB HOA HOB HSM ⊢
  have HK0 := hidd hK0
  have HAN := hidd hAn
  have HBN := hidd hBn
  clear hK0 hra0 hrb0 ha hb hE hT hAn hBn
  go_enter Tryd.func4, Tryd.ntmps4
  go_wp2_with fail
  refine HPA.out.mono ?_
  rintro e w2 ⟨rfl, hb2⟩
  have hK2 := HK0.out.later hb2
  clear HK0 hb2 HPA
  go_wp2_with fail
  have hK2d := hK2.drew
  have ew1 : IntKind.i64.wrap (ra + rb) = ra + rb := by rw [IntKind.wrap_i64]; omega
  by_cases hlg : 0 < ra + rb
  · have e0 : decide (0 < ra + rb) = true := decide_eq_true hlg
    obtain ⟨c0, c1, c2, c3, c4, c5, c6, c7⟩ := BkK.c hK2d
    clear HOA HOB hK2 hlg hra hrb HCK HTX HRD HFT HSM HAN HBN hlA hlB
    first
      | (go_region_law (first
          | (go_simp; go_at_call 7; (with_reducible refine (HLA.out _ (BkK.oa (by assumption))).mono ?_); rintro e w' ⟨rfl, hbl⟩; have hq := BkK.later (by assumption) hbl; obtain ⟨d0, d1, d2, d3, d4, d5, d6, d7⟩ := BkK.c hq)
          | (go_simp; go_at_call 7; (with_reducible refine (HLB.out _ (BkK.ob (by assumption))).mono ?_); rintro e w' ⟨rfl, hbl⟩; have hq := BkK.later (by assumption) hbl; obtain ⟨d0, d1, d2, d3, d4, d5, d6, d7⟩ := BkK.c hq)))
      | fail
    all_goals
      go_wp2_with fail
      go_ret
      exact ⟨rfl, BkK.below (by assumption)⟩
  have hr0 : ra = 0 := by omega
  have hr1 : rb = 0 := by omega
  have e0 : decide (0 < ra + rb) = false := decide_eq_false hlg
  by_cases hs1 : s.size ≤ 100
  rotate_left
  · have e1 : decide ((100 : Int) < (s.size : Int)) = true := decide_eq_true (by omega)
    clear HOA HOB hK2 hlg hra hrb HCK HTX HRD HFT HSM HAN HBN hlA hlB
    first
      | (go_region_held3 (fun W' => W'.cell? ⟨w.heap.size, 0, none⟩ = some (.string ka) ∧ W'.cell? ⟨w.heap.size, 1, none⟩ = some (.string da) ∧ W'.cell? ⟨w.heap.size, 2, none⟩ = some (.bool ea) ∧ W'.cell? ⟨w.heap.size, 3, none⟩ = some (.slice aa ksa.length ac) ∧ W'.cell? ⟨w.heap.size + 1, 0, none⟩ = some (.string kb) ∧ W'.cell? ⟨w.heap.size + 1, 1, none⟩ = some (.string db) ∧ W'.cell? ⟨w.heap.size + 1, 2, none⟩ = some (.bool eb) ∧ W'.cell? ⟨w.heap.size + 1, 3, none⟩ = some (.slice ba ksb.length bc))
          (first | exact BkK.c (by assumption))
          (first
            | (go_at_call 7; (with_reducible refine (HLA.out _ (BkK.oa (by assumption))).mono ?_); rintro e w' ⟨rfl, hbl⟩; have hq := BkK.later (by assumption) hbl)
            | (go_at_call 7; (with_reducible refine (HLB.out _ (BkK.ob (by assumption))).mono ?_); rintro e w' ⟨rfl, hbl⟩; have hq := BkK.later (by assumption) hbl)))
      | fail
    go_wp2_with fail
    go_ret
    exact ⟨rfl, BkK.below (by assumption)⟩
  have e1 : decide ((100 : Int) < (s.size : Int)) = false := decide_eq_false (by omega)
  first
    | (go_region_held3 (fun W' => W'.cell? ⟨w.heap.size, 0, none⟩ = some (.string ka) ∧ W'.cell? ⟨w.heap.size, 1, none⟩ = some (.string da) ∧ W'.cell? ⟨w.heap.size, 2, none⟩ = some (.bool ea) ∧ W'.cell? ⟨w.heap.size, 3, none⟩ = some (.slice aa ksa.length ac) ∧ W'.cell? ⟨w.heap.size + 1, 0, none⟩ = some (.string kb) ∧ W'.cell? ⟨w.heap.size + 1, 1, none⟩ = some (.string db) ∧ W'.cell? ⟨w.heap.size + 1, 2, none⟩ = some (.bool eb) ∧ W'.cell? ⟨w.heap.size + 1, 3, none⟩ = some (.slice ba ksb.length bc))
        (first | exact BkK.c (by assumption))
        (first
            | (go_at_call 7; (with_reducible refine (HLA.out _ (BkK.oa (by assumption))).mono ?_); rintro e w' ⟨rfl, hbl⟩; have hq := BkK.later (by assumption) hbl)
            | (go_at_call 7; (with_reducible refine (HLB.out _ (BkK.ob (by assumption))).mono ?_); rintro e w' ⟨rfl, hbl⟩; have hq := BkK.later (by assumption) hbl)))
    | fail
  have hq3 := hq
  have HOAf := hidd (HOA.out _ hr0 hq3.oa)
  have HOBf := hidd (fun W h => HOB.out W hr1 h)
  clear HLA HLB hK2 hK2d hq hbl ew1 e0 e1 HOA HOB hrb hra hlg hr0 hr1
  obtain ⟨c0, c1, c2, c3, -, -, -, -⟩ := BkK.c hq3
  go_wp2_with fail
  refine HOAf.out.mono ?_
  rintro e w4 ⟨xa, xc, ksx, rfl, hbx, hox, -, hb4⟩
  simp only [Tr.kind, Tr.data, Tr.exec] at hbx hox ⊢
  have hq5 := (hq3.later hb4).later ((Below.refl w4.heap.size w4).alloc (Nat.le_refl _) (.cells #[.string ka, .string da, .bool ea, .slice xa ksx.length xc] 24))
  have hox5 := hox.alloc (.cells #[.string ka, .string da, .bool ea, .slice xa ksx.length xc] 24)
  have hbk5 := Blk.new w4 [.string ka, .string da, .bool ea, .slice xa ksx.length xc] 24
  rw [HAN.out] at hbx
  have HBX := hidd hbx
  have hsz4 := (hq3.later hb4).below.size
  clear hbx hox hb4 hq3 c0 c1 c2 c3 HOAf HAN
  obtain ⟨-, -, -, -, c4, c5, c6, c7⟩ := BkK.c hq5
  go_wp2_with fail
  refine (HOBf.out _ hq5.ob).mono ?_
  rintro e w6 ⟨ya, yc, ksy, rfl, hby, hoy, -, hb6⟩
  simp only [Tr.kind, Tr.data, Tr.exec] at hby hoy ⊢
  have hlt6 := (hbk5.below hb6 hbk5.lt).lt
  have hX7 : BkX w (.mk ka da ea (.slice xa ksx.length xc) ksx) (.mk kb db eb (.slice ya ksy.length yc) ksy) w4.heap.size w6.heap.size (w6.alloc (.cells #[.string kb, .string db, .bool eb, .slice ya ksy.length yc] 24)) := by
    have h6 := (hq5.later hb6).below
    exact ⟨h6.alloc h6.size _, (hox5.ob hb6).alloc _, hoy.alloc _, (hbk5.below hb6 hbk5.lt).alloc _, Blk.new w6 [.string kb, .string db, .bool eb, .slice ya ksy.length yc] 24⟩
  rw [HBN.out] at hby
  have HBY := hidd hby
  clear hby hoy hb6 hq5 c4 c5 c6 c7 HOBf HBN hox5 hbk5
  have hC1 := HCK.out _ (.mk ka da ea (.slice xa ksx.length xc) ksx) An hX7.below hX7.ox HBX.out
  have HCB := hidd (fun W (h : BkX w (.mk ka da ea (.slice xa ksx.length xc) ksx) (.mk kb db eb (.slice ya ksy.length yc) ksy) w4.heap.size w6.heap.size W) => HCK.out _ (.mk kb db eb (.slice ya ksy.length yc) ksy) Bn h.below h.oy HBY.out)
  have HTA := hidd (fun W (h : BkX w (.mk ka da ea (.slice xa ksx.length xc) ksx) (.mk kb db eb (.slice ya ksy.length yc) ksy) w4.heap.size w6.heap.size W) => HTX.out W (.mk ka da ea (.slice xa ksx.length xc) ksx) An h.below h.ox HBX.out)
  have HTB := hidd (fun W (h : BkX w (.mk ka da ea (.slice xa ksx.length xc) ksx) (.mk kb db eb (.slice ya ksy.length yc) ksy) w4.heap.size w6.heap.size W) => HTX.out W (.mk kb db eb (.slice ya ksy.length yc) ksy) Bn h.below h.oy HBY.out)
  unfold nval at hC1 HCB HTA HTB
  simp only [Tr.kind, Tr.data, Tr.exec, Tr.v] at hC1 HCB HTA HTB
  clear HTX HCK
  obtain ⟨x0, x1, x2, x3, y0, y1, y2, y3⟩ := hX7.c
  by_cases hA0 : treeE An = 0
  rotate_left
  · rw [evc_ne hA0] at hC1
    have HC1 := hidd hC1
    have HB7 := hidd hX7.below
    clear hC1 hX7 HCB HTA HTB HRD HFT HSM hlA hlB HBX HBY
    go_wp2_with fail
    refine HC1.out.mono ?_
    rintro e w8 ⟨rfl, hb8⟩
    have hB8 := HB7.out.trans (hb8.mono HB7.out.size)
    go_wp2_with fail
    go_ret
    exact ⟨rfl, hB8⟩
  rw [hA0, evc_zero] at hC1
  have HC1 := hidd hC1
  have HTA' := hidd (fun W h => HTA.out W h hA0)
  clear hC1 HTA
  go_wp2_with fail
  refine HC1.out.mono ?_
  rintro e w8 ⟨rfl, hb8⟩
  have hX8 := hX7.later hb8
  clear hX7 hb8 HC1 x0 x1 x2 x3 y0 y1 y2 y3
  obtain ⟨x0, x1, x2, x3, y0, y1, y2, y3⟩ := hX8.c
  have hC2 := HCB.out _ hX8
  by_cases hB0 : treeE Bn = 0
  rotate_left
  · rw [evc_ne hB0] at hC2
    have HC2 := hidd hC2
    have HB8 := hidd hX8.below
    clear hC2 hX8 HCB HTA' HTB HRD HFT HSM hlA hlB HBX HBY hA0
    go_wp2_with fail
    refine HC2.out.mono ?_
    rintro e w9 ⟨rfl, hb9⟩
    have hB9 := HB8.out.trans (hb9.mono HB8.out.size)
    go_wp2_with fail
    go_ret
    exact ⟨rfl, hB9⟩
  rw [hB0, evc_zero] at hC2
  have HC2 := hidd hC2
  have HTB' := hidd (fun W h => HTB.out W h hB0)
  clear hC2 HTB HCB
  go_wp2_with fail
  refine HC2.out.mono ?_
  rintro e w9 ⟨rfl, hb9⟩
  have hX9 := hX8.later hb9
  clear hX8 hb9 HC2 x0 x1 x2 x3 y0 y1 y2 y3
  obtain ⟨x0, x1, x2, x3, y0, y1, y2, y3⟩ := hX9.c
  have hRR := read_right hA0
  have hFR := first_right hA0 s
  have hSS := hlA hA0
  have hST := hlB hB0
  have HBG := hidd (begins_of hA0 hB0)
  have HLG := hidd (fun h => longer_no (a := An) (b := Bn) h)
  clear hlA hlB hA0 hB0
  generalize bstr (textL An) = S at *
  generalize bstr (textL Bn) = T at *
  go_wp2_with fail
  refine (HTA'.out _ hX9).mono ?_
  rintro e w10 ⟨rfl, hb10⟩
  have hX10 := hX9.later hb10
  clear hX9 hb10 x0 x1 x2 x3 y0 y1 y2 y3 HTA'
  obtain ⟨x0, x1, x2, x3, y0, y1, y2, y3⟩ := hX10.c
  go_wp2_with fail
  refine (HTB'.out _ hX10).mono ?_
  rintro e w11 ⟨rfl, hb11⟩
  have hX11 := hX10.later hb11
  clear hX10 hb11 x0 x1 x2 x3 y0 y1 y2 y3 HTB'
  have hR := HRD.out w11 S (by omega) hX11.below
  have HX11 := hidd hX11
  by_cases hb1 : 20000 < S.size
  · rw [hRR, if_pos hb1] at hR
    have HR := hidd hR
    have z1 : decide ((20000 : Int) < (S.size : Int)) = true := decide_eq_true (by omega)
    have z2 : decide (20000 < S.size) = true := decide_eq_true hb1
    clear hR HRD HFT HSM HBX HBY hRR hFR HBG HLG hX11
    go_wp2_with fail
    refine HR.out.mono ?_
    rintro e w12 ⟨⟨g, rfl, -⟩, hb12⟩
    have hB12 := HX11.out.below.trans (hb12.mono HX11.out.below.size)
    have hB13 := hB12.alloc hB12.size (.cells #[.string ⟨#[]⟩, .string ⟨#[]⟩, .bool false, .slice none 0 0] 24)
    unfold erv
    clear hb12 hB12 HX11
    go_wp2_with fail
    go_ret
    exact ⟨rfl, hB13⟩
  rw [hRR, if_neg hb1] at hR
  have HR := hidd hR
  clear hR hRR HRD hX11
  go_wp2_with fail
  refine HR.out.mono ?_
  rintro e w12 ⟨⟨k1, d1, f1, a1, p1, l1, rfl, hbr1, hok1⟩, hb12⟩
  have hX12 := (HX11.out.later hb12)
  have hX13 := hX12.later ((Below.refl w12.heap.size w12).alloc (Nat.le_refl _) (.cells #[.string k1, .string d1, .bool f1, .slice a1 l1.length p1] 24))
  have hbk := Blk.new w12 [.string k1, .string d1, .bool f1, .slice a1 l1.length p1] 24
  have hok13 := hok1.alloc (.cells #[.string k1, .string d1, .bool f1, .slice a1 l1.length p1] 24)
  have hpx : w4.heap.size ≠ w12.heap.size := by have := hX12.bx.lt; omega
  have hpy : w6.heap.size ≠ w12.heap.size := by have := hX12.bY.lt; omega
  have hpw := hX12.below.size
  obtain ⟨x0, x1, x2, x3, y0, y1, y2, y3⟩ := hX13.c
  have u0 := hbk.cell (i := 0) rfl
  have u1 := hbk.cell (i := 1) rfl
  have u2 := hbk.cell (i := 2) rfl
  have u3 := hbk.cell (i := 3) rfl
  clear hX12 hok1 hb12 HX11 HR
  go_wp2_with fail
  refine (HSM.out _ _ _ _ _ _ _ _ _ _ _ _ _ An An true ⟨fun _ => rfl, fun _ => rfl⟩ hok13 hX13.ox hbr1 HBX.out).mono ?_
  rintro e w14 ⟨rfl, hb14⟩
  have hX14 := hX13.later hb14
  have hbk := hbk.below hb14 hbk.lt
  clear hX13 hb14 hok13 hbr1 x0 x1 x2 x3 y0 y1 y2 y3 u0 u1 u2 u3
  have m1 : ¬ (9223372036854775807 < S.size + s.size) := by omega
  have hF := HFT.out w14 (S ++ s) (by rw [ByteArray.size_append]; omega) hX14.below
  have hsz : (S ++ s).size = S.size + s.size := ByteArray.size_append
  have u0 := hbk.cell (i := 0) rfl
  have u1 := hbk.cell (i := 1) rfl
  have u2 := hbk.cell (i := 2) rfl
  have u3 := hbk.cell (i := 3) rfl
  have g0 := hbk.frozen 0
  have g1 := hbk.frozen 1
  have g2 := hbk.frozen 2
  have g3 := hbk.frozen 3
  by_cases hb2 : 20000 < (S ++ s).size
  · rw [hFR, if_pos hb2] at hF
    have HF := hidd hF
    have z1 : decide ((20000 : Int) < (S.size : Int) + (s.size : Int)) = true := decide_eq_true (by omega)
    have z2 : decide (20000 < S.size + s.size) = true := decide_eq_true (by omega)
    clear hF hFR HFT HSM HBX HBY HBG HLG hsz u0 u1 u2 u3 g0 g1 g2 g3 hb2
    go_wp2_with fail
    refine HF.out.mono ?_
    rintro e w15 ⟨⟨g, rfl, -⟩, hb15⟩
    have hB15 := hX14.below.trans (hb15.mono hX14.below.size)
    have hbk := hbk.below hb15 hbk.lt
    have hB16 := below_set4 hB15 (p := w12.heap.size) hpw (.string ⟨#[]⟩) (.string ⟨#[]⟩) (.bool false) (.slice none 0 0)
    unfold erv
    have u0 := hbk.cell (i := 0) rfl
    have u1 := hbk.cell (i := 1) rfl
    have u2 := hbk.cell (i := 2) rfl
    have u3 := hbk.cell (i := 3) rfl
    have g0 := hbk.frozen 0
    have g1 := hbk.frozen 1
    have g2 := hbk.frozen 2
    have g3 := hbk.frozen 3
    clear hbk hB15 hb15 hX14
    go_wp2_with fail
    go_ret
    exact ⟨rfl, hB16⟩
  rw [hFR, if_neg hb2] at hF
  have HF := hidd hF
  have z1 : decide ((20000 : Int) < (S.size : Int) + (s.size : Int)) = false := decide_eq_false (by omega)
  clear hF hFR HFT hsz u0 u1 u2 u3 g0 g1 g2 g3 hb2 z1
  go_wp2_with fail
  refine HF.out.mono ?_
  rintro e w15 ⟨⟨k2, d2, f2, a2, p2, l2, rfl, hbr2, hok2⟩, hb15⟩
  rw [bstr_self]
  have hX15 := hX14.later hb15
  have hbk := hbk.below hb15 hbk.lt
  have hX16 := hX15.set4 hbk hpx hpy hpw (.string k2) (.string d2) (.bool f2) (.slice a2 l2.length p2)
  have hok16 := ok_set4 hbk hok2 (.string k2) (.string d2) (.bool f2) (.slice a2 l2.length p2)
  have s12 := hbk.set4 (x0 := .string k2) (x1 := .string d2) (x2 := .bool f2) (x3 := .slice a2 l2.length p2)
  have u0 := hbk.cell (i := 0) rfl
  have u1 := hbk.cell (i := 1) rfl
  have u2 := hbk.cell (i := 2) rfl
  have u3 := hbk.cell (i := 3) rfl
  have g0 := hbk.frozen 0
  have g1 := hbk.frozen 1
  have g2 := hbk.frozen 2
  have g3 := hbk.frozen 3
  clear hX14 hX15 hok2 hb15 hbk HF
  go_upto_region 14 with fail
  generalize ((((w15.setCell ⟨w12.heap.size, 0, none⟩ (.string k2)).setCell ⟨w12.heap.size, 1, none⟩ (.string d2)).setCell ⟨w12.heap.size, 2, none⟩ (.bool f2)).setCell ⟨w12.heap.size, 3, none⟩ (.slice a2 l2.length p2)) = w16 at *
  clear u0 u1 u2 u3 g0 g1 g2 g3
  obtain ⟨x0, x1, x2, x3, y0, y1, y2, y3⟩ := hX16.c
  have u0 := s12.cell (i := 0) rfl
  have u1 := s12.cell (i := 1) rfl
  have u2 := s12.cell (i := 2) rfl
  have u3 := s12.cell (i := 3) rfl
  have hse : (s.toList == s.toList) = true := beq_self_eq_true _
  clear s12
  go_wp2_with fail
  refine (HSM.out _ _ _ _ _ _ _ _ _ _ _ _ _ An An true ⟨fun _ => rfl, fun _ => rfl⟩ hok16 hX16.ox hbr2 HBX.out).mono ?_
  rintro e w17 ⟨rfl, hb17⟩
  have hX17 := hX16.later hb17
  clear hX16 hb17 hok16 hbr2 x0 x1 x2 x3 y0 y1 y2 y3 u0 u1 u2 u3
  obtain ⟨x0, x1, x2, x3, y0, y1, y2, y3⟩ := hX17.c
  obtain ⟨r, hr⟩ : ∃ r : Bool, r = true ↔ An = Bn := by
    classical
    exact ⟨decide (An = Bn), by simp⟩
  have hS := HSM.out _ _ _ _ _ _ _ _ _ _ _ _ _ An Bn r hr hX17.ox hX17.oy HBX.out HBY.out
  have HS := hidd hS
  have HB17 := hidd hX17.below
  clear hS hX17 HSM HBX HBY hse
  by_cases hle : S.size ≤ T.size
  · have q1 : decide ((S.size : Int) ≤ (T.size : Int)) = true := decide_eq_true (by omega)
    have q2 : decide (S.size ≤ T.size) = true := decide_eq_true hle
    have q3 : (S.size : Int) ≤ (T.size : Int) := by omega
    have q4 : (0 : Int) ≤ (S.size : Int) := by omega
    have e1 : ((T.extract 0 S.size).toList == S.toList) = r := by
      rw [Bool.eq_iff_iff, beq_iff_eq, HBG.out, hr]
    clear HBG HLG hr hle
    go_wp2_with fail
    refine HS.out.mono ?_
    rintro e w18 ⟨rfl, hb18⟩
    have hB18 := HB17.out.trans (hb18.mono HB17.out.size)
    go_wp2_with fail
    go_ret
    exact ⟨by simp, hB18⟩
  · have q1 : decide ((S.size : Int) ≤ (T.size : Int)) = false := decide_eq_false (by omega)
    have q2 : decide (S.size ≤ T.size) = false := decide_eq_false hle
    have hrf : r = false := by
      cases r
      · rfl
      · exact absurd (hr.1 rfl) (HLG.out (by omega))
    subst hrf
    clear HBG HLG hr hle
    go_wp2_with fail
    refine HS.out.mono ?_
    rintro e w18 ⟨rfl, hb18⟩
    have hB18 := HB17.out.trans (hb18.mono HB17.out.size)
    go_wp2_with fail
    go_ret
    exact ⟨by simp, hB18⟩
end Go.Proofs.YtoaedkinlnkkhaaDoor
