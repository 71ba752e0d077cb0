/- DirsShares, walked. Condition: the arguments and the variables are there. -/
import Derived.Test.YtcdbocbiephpiaaGreatDoorDiE
import Derived.Test.YtcdbocbiephpiaaGreatDoorTrD
namespace Go.Proofs.YtcdbocbiephpiaaGreatDoor
open Go.RowKit Go.Shelf

theorem DiM.ltS {pc : Prop} {w : World} {L : Loc} {s : St} (h : DiM pc w L s) : ∀ b, diS L s b → b < w.heap.size := fun b hb => by
  rcases hb with (hb | hb | hb | hb | ⟨i, y, hy, hb⟩) | hb | hb | ⟨i, f, hf', hb⟩
  · rw [hb]; exact h.tb.dk.head.lt
  · rw [hb]; exact h.tb.dk.row.lt
  · rw [hb]; exact h.tb.sp.row.lt
  · obtain ⟨n0, -, hmm⟩ := h.tb.mp
    rw [hb]; exact hmm.lt
  · rw [hb]; exact (h.tb.ino i y hy).blk.lt
  · rw [hb]; exact h.bk.lt
  · rw [hb]; exact h.mp.lt
  · rw [hb]; exact (h.fms i f hf').lt
/-- What a Put leaves, whether or not it is one. -/
def PuX (L : Loc) (s : St) (t : Lt) (w : World) (e : Ending) (w' : World) : Prop :=
  Below L.B w w' ∧ ∃ (v : Int) (c : Value) (s' : St), e = .returned (.tuple #[.int .i64 v, c]) ∧ DiAt True w' L s' ∧ s'.N ≤ s.N + 200 ∧ s'.nm ≤ s.nm + 1 ∧ s'.nx ≤ s.nx + 1 ∧
    ((∃ a, c = .iface 242 a) ∨ (c = .nilIface ∧ v = (s.nx : Int) ∧ s'.nx = s.nx + 1 ∧ treeE t = 0 ∧ ∃ e', e'.src = t.bare ∧ s'.D = updD s.D s.nx (some e')))
theorem dput_any (E : Nat → Addr) (B : Nat) (L : Loc) (s : St) (t : Lt) (w : World) (ht : t.Ok w) (hti : t.In (fun b => ¬ diS L s b)) (h : DiAt True w L s) (hE : Env diGs B w E) (hEB : B ≤ L.B) (hM : Ml w) (hMl : 10 < L.B) (hLB : L.B ≤ w.heap.size) (hN : s.N ≤ 500000) (hnm : s.nm ≤ 500000) (hnx : s.nx ≤ 500000) :
    Calls Tryz.prog 8 #[.pointer (some ⟨L.d, 0, none⟩), nval t] w (PuX L s t w) := by
  by_cases h0 : treeE t = 0
  · by_cases hf : needS (listed t) ≤ nfree s.us
    · refine (dput_ok E B L s t w ht hti h hE hEB hM hMl hLB hN hnm hnx h0 hf).mono ?_
      rintro e w' ⟨rfl, hfr, e', s1, h1, h2, h3, h4, h5, h6, h7, h8, h9⟩
      have := filesR_le h0
      refine ⟨hfr.below hLB h.toDiM.baseS, (s.nx : Int), .nilIface, putS s1 e', rfl, h8, ?_, ?_, ?_, .inr ⟨rfl, rfl, ?_, h0, e', h1, ?_⟩⟩
      · show s1.N ≤ s.N + 200; omega
      · show s1.nm + 1 ≤ s.nm + 1; omega
      · show s1.nx + 1 ≤ s.nx + 1; omega
      · show s1.nx + 1 = s.nx + 1; omega
      · show updD s1.D s1.nx (some e') = _; rw [h2, h3]
    · refine (dput_full E B L s t w ht h.toDiM hE h0 (by omega)).mono ?_
      rintro e w' ⟨rfl, hb⟩
      exact ⟨hb.mono hLB, 0, _, s, rfl, h.low hb, by omega, by omega, by omega, .inl ⟨_, rfl⟩⟩
  · refine (dput_bad E B _ t w ht hE h0).mono ?_
    rintro e w' ⟨rfl, hb⟩
    exact ⟨hb.mono hLB, 0, _, s, rfl, h.low hb, by omega, by omega, by omega, .inl ⟨_, evc_ne h0⟩⟩
theorem large_numd (t : Lt) : ∃ r : Int, (0 ≤ r ∧ r ≤ 1) ∧ (r = 0 → t.sz ≤ 30) ∧ Hid (∀ W, t.Ok W → Calls Tryz.prog 6 #[nval t, .int .i64 30] W fun e w' => e = .returned (.int .i64 r) ∧ Below W.heap.size W w') := by
  by_cases h : SmallL 30 t
  · exact ⟨0, by omega, fun _ => h.small.many, hidd (fun W ht => (large_fn t 30 W ht (by omega)).mono fun _ _ ⟨k, hb⟩ => ⟨k.elim (fun k => k.1) (fun k => absurd h k.2), hb⟩)⟩
  · exact ⟨1, by omega, fun e => by omega, hidd (fun W ht => (large_fn t 30 W ht (by omega)).mono fun _ _ ⟨k, hb⟩ => ⟨k.elim (fun k => absurd k.2 h) (fun k => k.1), hb⟩)⟩
/-- What DirsShares has at hand. -/
structure DsK (E : Nat → Addr) (B : Nat) (w : World) (a b : Lt) (W : World) : Prop where
  below : Below w.heap.size w W
  oa : a.Ok W
  ob : b.Ok W
  env : Env diGs B W E
  ml : Ml W
  ba : Blk W w.heap.size (ncells a) 24
  bb : Blk W (w.heap.size + 1) (ncells b) 24
section
variable {E : Nat → Addr} {B : Nat} {w W W' : World} {a b : Lt}
theorem DsK.later (h : DsK E B w a b W) (hb : Below W.heap.size W W') : DsK E B w a b W' :=
  ⟨h.below.trans (hb.mono h.below.size), h.oa.ob hb, h.ob.ob hb, h.env.ob hb, h.ml.ob hb, h.ba.below hb h.ba.lt, h.bb.below hb h.bb.lt⟩
theorem DsK.drew (h : DsK E B w a b W) : DsK E B w a b W.drew := h.later ((Below.refl _ _).drew)
theorem DsK.c {ka da kb db : ByteArray} {ea eb : Bool} {va vb : Value} {ksa ksb : List (ByteArray × Lt)} (h : DsK E B w (.mk ka da ea va ksa) (.mk kb db eb vb ksb) W) :
    W.cell? ⟨w.heap.size, 0, none⟩ = some (.string ka) ∧ W.cell? ⟨w.heap.size, 1, none⟩ = some (.string da) ∧ W.cell? ⟨w.heap.size, 2, none⟩ = some (.bool ea) ∧ W.cell? ⟨w.heap.size, 3, none⟩ = some va ∧
    W.cell? ⟨w.heap.size + 1, 0, none⟩ = some (.string kb) ∧ W.cell? ⟨w.heap.size + 1, 1, none⟩ = some (.string db) ∧ W.cell? ⟨w.heap.size + 1, 2, none⟩ = some (.bool eb) ∧ W.cell? ⟨w.heap.size + 1, 3, none⟩ = some vb :=
  ⟨h.ba.cell (i := 0) rfl, h.ba.cell (i := 1) rfl, h.ba.cell (i := 2) rfl, h.ba.cell (i := 3) rfl, h.bb.cell (i := 0) rfl, h.bb.cell (i := 1) rfl, h.bb.cell (i := 2) rfl, h.bb.cell (i := 3) rfl⟩
end

set_option maxRecDepth 100000 in
set_option maxHeartbeats 40000000 in
theorem dirsShares_true (E : Nat → Addr) (B : Nat) (a b : Lt) (w : World) (ha : a.Ok w) (hb : b.Ok w) (hE : Env diGs B w E) (hM : Ml w) :
    Calls Tryz.prog 3 #[nval a, nval b] w fun e w' => e = .returned (.bool true) ∧ Below w.heap.size w w' := by
  have hMl : 10 < w.heap.size := by
    obtain ⟨mv, hmv⟩ := hM
    exact World.block_lt_of_cell? w _ hmv
  have hBw := hE.size
  obtain ⟨aa, ac, hav⟩ := ha.shape
  obtain ⟨ba, bc, hbv⟩ := hb.shape
  obtain ⟨ka, da, ea, va, ksa⟩ := a
  obtain ⟨kb, db, eb, vb, ksb⟩ := b
  simp only [Tr.v, Tr.kids] at hav hbv
  subst hav hbv
  have hK0 : DsK E B w (Tr.mk ka da ea (.slice aa ksa.length ac) ksa : Lt) (Tr.mk kb db eb (.slice ba ksb.length bc) ksb : Lt) ((w.alloc (.cells #[.string ka, .string da, .bool ea, .slice aa ksa.length ac] 24)).alloc (.cells #[.string kb, .string db, .bool eb, .slice ba ksb.length bc] 24)) := by
    have hB2 : Below w.heap.size w ((w.alloc (.cells #[.string ka, .string da, .bool ea, .slice aa ksa.length ac] 24)).alloc (.cells #[.string kb, .string db, .bool eb, .slice ba ksb.length bc] 24)) := ((Below.refl _ _).alloc (Nat.le_refl _) _).alloc (by simp) _
    have h1 := Blk.new w [.string ka, .string da, .bool ea, .slice aa ksa.length ac] 24
    have h2 := Blk.new (w.alloc (.cells #[.string ka, .string da, .bool ea, .slice aa ksa.length ac] 24)) [.string kb, .string db, .bool eb, .slice ba ksb.length bc] 24
    rw [asz] at h2
    exact ⟨hB2, ha.ob hB2, hb.ob hB2, hE.ob hB2, hM.ob hB2, h1.alloc _, h2⟩
  clear ha hb hE hM
  obtain ⟨ra, hra, hra0, HLA⟩ := large_numd (Tr.mk ka da ea (.slice aa ksa.length ac) ksa : Lt)
  obtain ⟨rb, hrb, hrb0, HLB⟩ := large_numd (Tr.mk kb db eb (.slice ba ksb.length bc) ksb : Lt)
  have HOA := hidd (fun W (hs : ra = 0) (h : (Tr.mk ka da ea (.slice aa ksa.length ac) ksa : Lt).Ok W) => own_any 300 (Tr.mk ka da ea (.slice aa ksa.length ac) ksa : Lt) W (by have := hra0 hs; omega) (Nat.le_refl _) h)
  have HOB := hidd (fun W (hs : rb = 0) (h : (Tr.mk kb db eb (.slice ba ksb.length bc) ksb : Lt).Ok W) => own_any 300 (Tr.mk kb db eb (.slice ba ksb.length bc) ksb : Lt) W (by have := hrb0 hs; omega) (Nat.le_refl _) h)
  simp only [nval, Tr.kind, Tr.data, Tr.exec, Tr.v] at HLA HLB HOA HOB ⊢
  have HK0 := hidd hK0
  clear hK0 hra0 hrb0
  go_enter Tryz.func3, Tryz.ntmps3
  go_wp2_with fail
  refine (dired_true E B _ HK0.out.env HK0.out.ml (by have := HK0.out.below.size; omega)).mono ?_
  rintro e w2 ⟨rfl, hb2⟩
  have hK2 := HK0.out.later hb2
  clear HK0 hb2
  go_wp2_with fail
  have hK2d := hK2.drew
  have ew1 : IntKind.i64.wrap (ra + rb) = ra + rb := by rw [IntKind.wrap_i64]; omega
  by_cases hlg : 0 < ra + rb
  · have e0 : decide (0 < ra + rb) = true := decide_eq_true hlg
    clear HOA HOB hK2 hlg hra hrb
    first
      | (go_region_held3 (fun W' => W'.cell? ⟨w.heap.size, 0, none⟩ = some (.string ka) ∧ W'.cell? ⟨w.heap.size, 1, none⟩ = some (.string da) ∧ W'.cell? ⟨w.heap.size, 2, none⟩ = some (.bool ea) ∧ W'.cell? ⟨w.heap.size, 3, none⟩ = some (.slice aa ksa.length ac) ∧ W'.cell? ⟨w.heap.size + 1, 0, none⟩ = some (.string kb) ∧ W'.cell? ⟨w.heap.size + 1, 1, none⟩ = some (.string db) ∧ W'.cell? ⟨w.heap.size + 1, 2, none⟩ = some (.bool eb) ∧ W'.cell? ⟨w.heap.size + 1, 3, none⟩ = some (.slice ba ksb.length bc))
          (first | exact DsK.c (by assumption))
          (first
            | (go_at_call 6; (with_reducible refine (HLA.out _ (DsK.oa (by assumption))).mono ?_); rintro e w' ⟨rfl, hbl⟩; have hq := DsK.later (by assumption) hbl)
            | (go_at_call 6; (with_reducible refine (HLB.out _ (DsK.ob (by assumption))).mono ?_); rintro e w' ⟨rfl, hbl⟩; have hq := DsK.later (by assumption) hbl)))
      | fail
    all_goals
      go_wp2_with fail
      go_ret
      exact ⟨rfl, DsK.below (by assumption)⟩
  · have hr0 : ra = 0 := by omega
    have hr1 : rb = 0 := by omega
    have e0 : decide (0 < ra + rb) = false := decide_eq_false hlg
    clear hlg
    first
      | (go_region_held3 (fun W' => W'.cell? ⟨w.heap.size, 0, none⟩ = some (.string ka) ∧ W'.cell? ⟨w.heap.size, 1, none⟩ = some (.string da) ∧ W'.cell? ⟨w.heap.size, 2, none⟩ = some (.bool ea) ∧ W'.cell? ⟨w.heap.size, 3, none⟩ = some (.slice aa ksa.length ac) ∧ W'.cell? ⟨w.heap.size + 1, 0, none⟩ = some (.string kb) ∧ W'.cell? ⟨w.heap.size + 1, 1, none⟩ = some (.string db) ∧ W'.cell? ⟨w.heap.size + 1, 2, none⟩ = some (.bool eb) ∧ W'.cell? ⟨w.heap.size + 1, 3, none⟩ = some (.slice ba ksb.length bc))
          (first | exact DsK.c (by assumption))
          (first
            | (go_at_call 6; (with_reducible refine (HLA.out _ (DsK.oa (by assumption))).mono ?_); rintro e w' ⟨rfl, hbl⟩; have hq := DsK.later (by assumption) hbl)
            | (go_at_call 6; (with_reducible refine (HLB.out _ (DsK.ob (by assumption))).mono ?_); rintro e w' ⟨rfl, hbl⟩; have hq := DsK.later (by assumption) hbl)))
      | fail
    all_goals
      have HQ := hidd hq
      have ew0 : IntKind.i64.wrap 0 = 0 := by rw [IntKind.wrap_i64]; omega
      have ew2 : decide ((0 : Int) < 0) = false := rfl
      have HR := hidd (⟨hr0, hr1⟩ : ra = 0 ∧ rb = 0)
      have hz0 := hq.below.size
      clear hq hbl hK2 hK2d hr0 hr1 hra hrb
      go_wp2_with fail
      refine (dirsOf_ok 512 w' (by omega) (by omega)).mono ?_
      rintro e w4 ⟨L, v, rfl, hLB, hD4, hb4⟩
      have hK4 := HQ.out.later hb4
      have hz4 := hb4.size
      obtain ⟨x0, x1, x2, x3, -⟩ := DsK.c hK4
      have HOA4 := hidd (HOA.out w4 HR.out.1 hK4.oa)
      have HD4 := hidd hD4
      have HK4 := hidd hK4
      have HLB := hidd hLB
      have HB4 := hidd hb4
      have hEB : B ≤ L.B := by omega
      have hML : 10 < L.B := by omega
      clear hD4 hK4 hb4 ew0 ew2 ew1 e0
      go_wp2_with fail
      refine HOA4.out.mono ?_
      rintro e w5 ⟨ya, yc, ky, rfl, hyb, hyo, hyi, hb5⟩
      have hz5 := hb5.size
      have hD5 := HD4.out.low hb5
      have hK5 := HK4.out.later hb5
      have hPA := dput_any E B L _ _ w5 hyo (in_mono (fun b hb hd => by have h1 := HD4.out.toDiM.ltS b hd; have h2 : w4.heap.size ≤ b := hb.1; omega) _ hyi) hD5 hK5.env hEB hK5.ml hML (by omega) (by show 0 ≤ 500000; omega) (by show 0 ≤ 500000; omega) (by show 0 ≤ 500000; omega)
      have HPA : Hid (Calls Tryz.prog 8 #[.pointer (some ⟨L.d, 0, none⟩), .agg #[.string ka, .string da, .bool ea, .slice ya ky.length yc]] w5 (PuX L ⟨0, 0, fun _ => none, List.replicate 512 false, List.replicate 512 (zb 16), fun _ => none, 0⟩ (.mk ka da ea (.slice ya ky.length yc) ky) w5)) := hidd hPA
      have HYB := hidd hyb
      have hB45 : Below w'.heap.size w' w5 := HB4.out.trans (hb5.mono hz4)
      have HB45 := hidd hB45
      clear hPA hyb hyo hyi hb5 hD5 hK5 hB45 x0 x1 x2 x3
      go_wp2_with fail
      refine HPA.out.mono ?_
      rintro e w6 ⟨hB6, v1, c1, s1, rfl, hD6, hN6, hm6, hx6, hr6⟩
      rw [HLB.out] at hB6
      have hB06 : Below w'.heap.size w' w6 := HB45.out.trans hB6
      have hz6 := hB06.size
      have hK6 := HQ.out.later hB06
      obtain ⟨-, -, -, -, y0, y1, y2, y3⟩ := DsK.c hK6
      have HOB6 := hidd (HOB.out w6 HR.out.2 hK6.ob)
      have HD6 := hidd hD6
      have HK6 := hidd hK6
      have HB06 := hidd hB06
      have HR6 := hidd hr6
      have HN6 : Hid (s1.N ≤ 200 ∧ s1.nm ≤ 1 ∧ s1.nx ≤ 1) := hidd ⟨by omega, by omega, by omega⟩
      clear hB6 hD6 hK6 hB06 hr6 hN6 hm6 hx6
      go_wp2_with fail
      refine HOB6.out.mono ?_
      rintro e w7 ⟨za, zc, kz, rfl, hzb, hzo, hzi, hb7⟩
      have hz7 := hb7.size
      have hD7 := HD6.out.low hb7
      have hK7 := HK6.out.later hb7
      have hNn := HN6.out
      have hPB := dput_any E B L s1 _ w7 hzo (in_mono (fun b hb hd => by have h1 := HD6.out.toDiM.ltS b hd; have h2 : w6.heap.size ≤ b := hb.1; omega) _ hzi) hD7 hK7.env hEB hK7.ml hML (by have := HLB.out; omega) (by omega) (by omega) (by omega)
      have HPB : Hid (Calls Tryz.prog 8 #[.pointer (some ⟨L.d, 0, none⟩), .agg #[.string kb, .string db, .bool eb, .slice za kz.length zc]] w7 (PuX L s1 (.mk kb db eb (.slice za kz.length zc) kz) w7)) := hidd hPB
      have hB07 : Below w'.heap.size w' w7 := HB06.out.trans (hb7.mono hz6)
      have HB07 := hidd hB07
      have HZB := hidd hzb
      clear hPB hzo hzi hb7 hD7 hK7 hB07 y0 y1 y2 y3 hNn hzb
      go_wp2_with fail
      refine HPB.out.mono ?_
      rintro e w8 ⟨hB8, v2, c2, s2, rfl, hD8, hN8, hm8, hx8, hr8⟩
      rw [HLB.out] at hB8
      have hB08 : Below w'.heap.size w' w8 := HB07.out.trans hB8
      have hK8 := HQ.out.later hB08
      obtain ⟨x0, x1, x2, x3, -⟩ := DsK.c hK8
      have HB08 : Hid (Below w.heap.size w w8) := hidd hK8.below
      have HD8 := hidd hD8
      have HK8 := hidd hK8
      have HN8 : Hid (s2.N ≤ 400) := hidd (by have := HN6.out; omega)
      have hz8 := hB08.size
      rcases HR6.out with ⟨a1, rfl⟩ | ⟨rfl, hv1, hn1, h01, e1', hs1, hd1⟩
      · clear hB8 hD8 hK8 hB08 hr8 hN8 hm8 hx8
        go_wp2_with fail
        go_ret
        exact ⟨rfl, HB08.out⟩
      · rcases hr8 with ⟨a2, rfl⟩ | ⟨rfl, hv2, hn2, h02, e2', hs2, hd2⟩
        · clear hB8 hD8 hK8 hB08 hN8 hm8 hx8 hv1 hn1 hd1 hs1 h01
          go_wp2_with fail
          go_ret
          exact ⟨rfl, HB08.out⟩
        · have hn1' : s1.nx = 1 := hn1
          obtain rfl : v1 = 0 := hv1
          obtain rfl : v2 = 1 := by rw [hv2, hn1']; rfl
          have hta : treeE (Tr.mk ka da ea (.slice aa ksa.length ac) ksa : Lt) = 0 := by
            have h1 : treeE (Tr.mk ka da ea (.slice ya ky.length yc) ky : Lt).bare = 0 := by rw [show (Tr.mk ka da ea (.slice ya ky.length yc) ky : Lt).bare = (Tr.mk ka da ea (.slice ya ky.length yc) ky : Lt).map fun _ => () from rfl, treeE_map]; exact h01
            rw [show (Tr.mk ka da ea (.slice ya ky.length yc) ky : Lt).bare = _ from HYB.out, show (Tr.mk ka da ea (.slice aa ksa.length ac) ksa : Lt).bare = (Tr.mk ka da ea (.slice aa ksa.length ac) ksa : Lt).map fun _ => () from rfl, treeE_map] at h1
            exact h1
          have h0D : s2.D 0 = some e1' := by
            rw [hd2, hn1', hd1]
            rfl
          have h1D : s2.D 1 = some e2' := by
            rw [hd2, hn1']
            rfl
          have hSH := sharedAll_true E B L s2 (Tr.mk ka da ea (.slice aa ksa.length ac) ksa : Lt) w8 HK8.out.oa HD8.out HK8.out.env hEB HK8.out.ml hML (by have := HLB.out; omega) hta e1' e2' h0D (hs1.trans HYB.out) h1D (by have := HN8.out; omega) HD8.out.toDiM.ltS
          have HSH : Hid (Calls Tryz.prog 10 #[.pointer (some ⟨L.d, 0, none⟩), .agg #[.string ka, .string da, .bool ea, .slice aa ksa.length ac], .int .i64 0, .int .i64 1] w8 fun e w' => e = .returned (.bool true) ∧ Below L.B w8 w') := hidd hSH
          clear hB8 hD8 hK8 hB08 hN8 hm8 hx8 hn1 hd1 hs1 h01 hv2 hn2 h02 hs2 hd2 hn1' hta h0D h1D hSH
          go_wp2_with fail
          refine HSH.out.mono ?_
          rintro e w9 ⟨rfl, hb9⟩
          have HB9 : Hid (Below w.heap.size w w9) := hidd (HB08.out.trans (hb9.mono (by have := HLB.out; omega)))
          clear hb9
          go_wp2_with fail
          go_ret
          exact ⟨rfl, HB9.out⟩
end Go.Proofs.YtcdbocbiephpiaaGreatDoor
