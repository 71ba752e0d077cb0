/- Dirs: New, the statements' dirsOf, and what links save. Condition: the dirs are there. · Dirs: what is got is what was put; the statements' closed fact. Condition: the variables read as listed. -/
import Derived.Test.YtoemahhpheobkaaGreatDoorDi9
namespace Go.Proofs.YtoemahhpheobkaaGreatDoor
open Go.RowKit Go.Shelf

/-- Dirs of no trees. -/
theorem di_start {pc : Prop} {w : World} {L : Loc} {us : List Bool} {ls : List ByteArray} (h : TbAt pc w L.B L.t L.p L.r L.ps L.rs L.m 0 (fun _ => none) us ls) (hb : Blk w L.d [.pointer (some ⟨L.t, 0, none⟩), .map (some L.mb), .int .i64 ((0 : Nat) : Int)] 78)
    (hm : MapD w L.mb 0 (fun _ => none)) (hne : L.mb ≠ L.m) (hB : L.B ≤ L.d ∧ L.B ≤ L.mb) (hz : Sz ls []) : DiAt pc w L ⟨0, 0, fun _ => none, us, ls, fun _ => none, 0⟩ where
  tb := h
  bk := hb
  mp := hm
  fms := fun _ _ e => by cases e
  tr := fun _ _ e => by cases e
  inn := fun _ _ e => by cases e
  ne := ⟨hne, fun _ _ e => by cases e⟩
  inj := fun _ _ _ _ e => by cases e
  base := ⟨hB.1, hB.2, fun _ _ e => by cases e⟩
  far := fun _ _ => rfl
  sz := hz
  well := fun _ _ e => by cases e
  lnk := fun _ => rfl
  dat := fun _ _ _ e => by cases e

/-- What New leaves. -/
def DnP (t : Nat) (w : World) (e : Ending) (w' : World) : Prop := ∃ d mb, e = .returned (.tuple #[.pointer (some ⟨d, 0, none⟩), .nilIface]) ∧ Blk w' d [.pointer (some ⟨t, 0, none⟩), .map (some mb), .int .i64 ((0 : Nat) : Int)] 78 ∧ MapD w' mb 0 (fun _ => none) ∧ w.heap.size ≤ d ∧ w.heap.size ≤ mb ∧ Below w.heap.size w w'
set_option maxRecDepth 100000 in
theorem dirs_new (t : Nat) (w : World) : Calls Tryz.prog 27 #[.pointer (some ⟨t, 0, none⟩)] w (DnP t w) := by
  have hmk : (Sem.run Tryz.prog (Instr.makeMap 76 none) w) = .ok (.map (some w.heap.size)) (w.alloc (.map #[] 0)) := rfl
  have HP : Hid (DnP t w (.returned (.tuple #[.pointer (some ⟨w.heap.size + 1, 0, none⟩), .nilIface])) ((w.alloc (.map #[] 0)).alloc (.cells #[.pointer (some ⟨t, 0, none⟩), .map (some w.heap.size), .int .i64 0] 78))) := hidd (by
    have hb := Blk.new (w.alloc (.map #[] 0)) [.pointer (some ⟨t, 0, none⟩), .map (some w.heap.size), .int .i64 0] 78
    rw [asz] at hb
    refine ⟨w.heap.size + 1, w.heap.size, rfl, hb, ⟨[entZ], by simp, ?_⟩, by omega, Nat.le_refl _, ((Below.refl _ _).alloc (Nat.le_refl _) _).alloc (by simp) _⟩
    have := (MapV.new [entZ] w).low ((Below.refl _ _).alloc (by simp) (.cells #[.pointer (some ⟨t, 0, none⟩), .map (some w.heap.size), .int .i64 0] 78))
    have e : dmF (fun _ => none) = fun _ => none := by funext i; unfold dmF; split <;> rfl
    rw [e]
    exact this)
  go_enter Tryz.func27, Tryz.ntmps27
  go_wp2_with fail
  go_ret2
  exact HP.out

/-- A new table, and its model's place. -/
def TnPostP (pc : Prop) (n : Nat) (w : World) (e : Ending) (w' : World) : Prop := ∃ t p r ps rs m q, e = .returned (.tuple #[.pointer (some ⟨t, 0, none⟩), .pointer (some ⟨q, 0, none⟩), .bool true]) ∧
  TbAt pc w' w.heap.size t p r ps rs m 0 (fun _ => none) (List.replicate n false) (List.replicate n (zb 16)) ∧ Below w.heap.size w w'
set_option maxRecDepth 100000 in
set_option maxHeartbeats 1000000 in
theorem tableOf_okp {pc : Prop} (n : Nat) (w : World) (h1 : 1 ≤ n) (h2 : n ≤ 512) : Calls Tryz.prog 26 #[.int .i64 (n : Int)] w (TnPostP pc n w) := by
  go_enter Tryz.func26, Tryz.ntmps26
  go_wp2_with fail
  refine (rnew_any n _ h2).mono ?_
  rintro e w1 ⟨⟨q, rfl⟩, hb1⟩
  go_wp2_with fail
  refine (dnew_ok n _ h1 h2).mono ?_
  rintro e w2 ⟨p, r, rfl, hdk, g1, g2, hb2⟩
  have hB2 : Below w.heap.size w w2 := (hb1.alloc hb1.size (.cells #[.pointer (some ⟨q, 0, none⟩), .slice none 0 0] 124)).trans (hb2.mono (by have := hb1.size; simp; omega))
  have HB2 := hidd hB2
  have HG : Hid (w.heap.size ≤ p ∧ w.heap.size ≤ r) := hidd (by have := hb1.size; simp at g1 g2; omega)
  have hlen : (List.replicate n (zb 16)).length = n := by simp
  have hin := inew_ok p r _ (List.replicate n (zb 16)) [] w2 hdk (by rw [hlen]; exact h1) (by rw [hlen]; exact h2)
  rw [hlen] at hin
  clear hb1 hb2 hB2 g1 g2
  go_wp2_with fail
  refine hin.mono ?_
  rintro e w3 ⟨t, ps, rs, m, rfl, hb, hs, hm, e1, e2, e3, e4, -, -, -, -, -, hb3⟩
  have hsz := HB2.out.size
  have HP : Hid (TnPostP pc n w (.returned (.tuple #[.pointer (some ⟨t, 0, none⟩), .pointer (some ⟨w1.heap.size, 0, none⟩), .bool true])) w3) := hidd
    ⟨t, p, r, ps, rs, m, _, rfl, tb_start (hdk.ob hb3 (Nat.le_refl _)) hb hs hm (by have := HG.out; omega), HB2.out.trans (hb3.mono hsz)⟩
  clear hin hdk hb hs hm hb3
  go_wp2_with fail
  refine bodyPost_ret (results_tmp3 rfl _ _ _) rfl ?_
  exact HP

/-- What dirsOf leaves. -/
def DoP (n : Nat) (w : World) (e : Ending) (w' : World) : Prop := ∃ (L : Loc) (v : Value), e = .returned (.tuple #[.pointer (some ⟨L.d, 0, none⟩), v, .bool true]) ∧ L.B = w.heap.size ∧ DiAt True w' L ⟨0, 0, fun _ => none, List.replicate n false, List.replicate n (zb 16), fun _ => none, 0⟩ ∧ Below w.heap.size w w'
set_option maxRecDepth 100000 in
theorem dirsOf_ok (n : Nat) (w : World) (h1 : 1 ≤ n) (h2 : n ≤ 512) : Calls Tryz.prog 7 #[.int .i64 (n : Int)] w (DoP n w) := by
  have HT := hidd (tableOf_okp (pc := True) n w h1 h2)
  go_enter Tryz.func7, Tryz.ntmps7
  go_wp2_with fail
  refine HT.out.mono ?_
  rintro e w1 ⟨t, p, r, ps, rs, m, q, rfl, htb, hb1⟩
  have HTB := hidd htb
  have HB1 := hidd hb1
  clear htb hb1 HT
  have hq := Blk.new w1 [.pointer (some ⟨q, 0, none⟩), .slice none 0 0, .int .i64 0] 73
  have hB2 : Below w1.heap.size w1 (w1.alloc (.cells #[.pointer (some ⟨q, 0, none⟩), .slice none 0 0, .int .i64 0] 73)) := (Below.refl _ _).alloc (Nat.le_refl _) _
  have HDN := hidd (dirs_new t (w1.alloc (.cells #[.pointer (some ⟨q, 0, none⟩), .slice none 0 0, .int .i64 0] 73)))
  have HB2 := hidd hB2
  clear hq hB2
  go_wp2_with fail
  refine HDN.out.mono ?_
  rintro e w3 ⟨d, mb, rfl, hb, hm, hd1, hm1, hb3⟩
  have HP : Hid (DoP n w (.returned (.tuple #[.pointer (some ⟨d, 0, none⟩), .pointer (some ⟨w1.heap.size, 0, none⟩), .bool true])) w3) := hidd (by
    have hB3 := HB2.out.trans (hb3.mono HB2.out.size)
    have hz := HB2.out.size
    have hz1 := HB1.out.size
    have hml : m < w1.heap.size := by obtain ⟨n0, -, hmm⟩ := HTB.out.mp; exact hmm.lt
    refine ⟨⟨w.heap.size, d, t, p, r, ps, rs, m, mb⟩, _, rfl, rfl, di_start (L := ⟨w.heap.size, d, t, p, r, ps, rs, m, mb⟩) (HTB.out.ob hB3) hb hm (by show mb ≠ m; omega) ⟨by show w.heap.size ≤ d; omega, by show w.heap.size ≤ mb; omega⟩ (a16_start n), HB1.out.trans (hB3.mono hz1)⟩)
  clear hb hm hd1 hm1 hb3
  go_wp2_with fail
  refine bodyPost_ret (results_tmp3 rfl _ _ _) rfl ?_
  exact HP.out
end Go.Proofs.YtoemahhpheobkaaGreatDoor

namespace Go.Proofs.YtoemahhpheobkaaGreatDoor
open Go.RowKit Go.Shelf

/-- Where the blocks are whole each file is read as it was put. -/
theorem got_src {w : World} {L : Loc} {s : St} (h : DiAt True w L s) {k : Nat} {e : Dt} (he : s.D k = some e) : (∀ q ∈ e.fl, (rdP s.ls s.T e.F q).isSome = true) ∧ fillT (rdG s e) ⟨#[]⟩ e.tr.bare = e.src := by
  have hw := h.well k e he
  have hq : ∀ q ∈ e.fl, ∃ n x, e.F q = some n ∧ s.T n = some x ∧ rdP s.ls s.T e.F q = some x.data := fun q hq => by
    have h1 := (hw.dom q).2 hq
    cases hn : e.F q with
    | none => rw [hn] at h1; cases h1
    | some n =>
      obtain ⟨x, hx, -⟩ := h.ino he hn
      refine ⟨n, x, rfl, hx, ?_⟩
      unfold rdP
      rw [hn]
      simp only [Option.bind_some]
      rw [hx]
      exact rdI_pc h.toDiM trivial hx
  refine ⟨fun q hqq => ?_, fill_src hw (fun it hit => ?_)⟩
  · obtain ⟨n, x, -, -, h3⟩ := hq q hqq
    rw [h3]; rfl
  · have hm : pathOf (jt it.1) ∈ e.fl := by
      show _ ∈ fileL (listed e.src)
      rw [fileL_R hw.right]
      exact List.mem_map.2 ⟨it, hit, rfl⟩
    obtain ⟨n, x, h1, h2, h3⟩ := hq _ hm
    unfold rdG
    rw [h3]
    exact (h.dat trivial k e he it hit n x h1 h2).1
/-- A path of a file is one. -/
theorem fl_split {e : Dt} (hw : e.Well) {q : ByteArray} (hq : q ∈ e.fl) : ∃ l, splitOf q = some l := by
  have hq' : q ∈ fileL (listed e.src) := hq
  rw [fileL_R hw.right] at hq'
  obtain ⟨x, hx, rfl⟩ := List.mem_map.1 hq'
  have hx' := (List.mem_filter.1 hx).1
  exact ⟨_, names_joined (preR_at e.src.sz e.src (Nat.le_refl _) hw.right x hx').2.1 (preR_deep hw.right x hx')⟩
theorem fl_ino {w : World} {L : Loc} {s : St} {pc : Prop} (h : DiAt pc w L s) {k : Nat} {e : Dt} (he : s.D k = some e) {q : ByteArray} (hq : q ∈ e.fl) : ∃ n x, e.F q = some n ∧ s.T n = some x ∧ inoR s.D (k : Int) q = .ok n := by
  have hw := h.well k e he
  have h1 := (hw.dom q).2 hq
  cases hn : e.F q with
  | none => rw [hn] at h1; cases h1
  | some n =>
    obtain ⟨x, hx, -⟩ := h.ino he hn
    obtain ⟨l, hl⟩ := fl_split hw hq
    exact ⟨n, x, rfl, hx, inoR_of he hl hn⟩

/-- The statements' file. -/
def F0 : Lt := .mk kFile ⟨#[120, 121]⟩ false (.slice none 0 0) []
theorem f0_right : treeE F0 = 0 := rfl
theorem f0_ok (w : World) : F0.Ok w := Tr.Ok.mk' (Sl.nil _ 5) (by intro y hy; cases hy) (by intro y hy; cases hy)
theorem f0_in (P : Nat → Prop) : F0.In P := by unfold F0; rw [Tr.In]; exact ⟨fun h => absurd rfl h, by rw [InS]; trivial⟩
theorem f0_files : filesR F0 = [([], F0)] := rfl
theorem f0_need : needS (listed F0) = 1 := by rw [needS_R f0_right, f0_files]; rfl

set_option maxRecDepth 100000 in
set_option maxHeartbeats 8000000 in
theorem dired_true (E : Nat → Addr) (B : Nat) (w : World) (hE : Env diGs B w E) (hM : Ml w) (hMl : 10 < w.heap.size) :
    Calls Tryz.prog 5 #[] w fun e w' => e = .returned (.bool true) ∧ Below w.heap.size w w' := by
  have HT := hidd (tableOf_okp (pc := True) 4 w (by omega) (by omega))
  have HE := hidd hE
  have HM := hidd hM
  clear hE hM
  go_enter Tryz.func5, Tryz.ntmps5
  go_wp2_with fail
  refine HT.out.mono ?_
  rintro e w1 ⟨t, p, r, ps, rs, m, q, rfl, htb, hb1⟩
  have HDN := hidd (dirs_new t w1)
  have HTB := hidd htb
  have HB1 := hidd hb1
  clear htb hb1 HT
  go_wp2_with fail
  refine HDN.out.mono ?_
  rintro e w3 ⟨d, mb, rfl, hb, hm, hd1, hm1, hb3⟩
  have hD : DiAt True w3 ⟨w.heap.size, d, t, p, r, ps, rs, m, mb⟩ ⟨0, 0, fun _ => none, List.replicate 4 false, List.replicate 4 (zb 16), fun _ => none, 0⟩ := by
    have hz1 := HB1.out.size
    have hml : m < w1.heap.size := by obtain ⟨n0, -, hmm⟩ := HTB.out.mp; exact hmm.lt
    exact di_start (L := ⟨w.heap.size, d, t, p, r, ps, rs, m, mb⟩) (HTB.out.ob hb3) hb hm (by show mb ≠ m; omega) ⟨by show w.heap.size ≤ d; omega, by show w.heap.size ≤ mb; omega⟩ (a16_start 4)
  have hB3 := HB1.out.trans (hb3.mono HB1.out.size)
  have hf4 : nfree (List.replicate 4 false) = 4 := by decide
  have hPT := dput_ok E B ⟨w.heap.size, d, t, p, r, ps, rs, m, mb⟩ _ F0 w3 (f0_ok w3) (f0_in _) hD (HE.out.ob hB3) HE.out.size (HM.out.ob hB3) hMl hB3.size (by show 0 ≤ 500000; omega) (by show 0 ≤ 500000; omega) (by show 0 ≤ 500000; omega) f0_right (by rw [f0_need]; show 1 ≤ nfree (List.replicate 4 false); omega)
  have HPT : Hid (Calls Tryz.prog 8 #[.pointer (some ⟨d, 0, none⟩), .agg #[.string ⟨#[102, 105, 108, 101]⟩, .string ⟨#[120, 121]⟩, .bool false, .slice none 0 0]] w3 (PtP True ⟨w.heap.size, d, t, p, r, ps, rs, m, mb⟩ ⟨0, 0, fun _ => none, List.replicate 4 false, List.replicate 4 (zb 16), fun _ => none, 0⟩ F0 w3)) := hidd hPT
  have HB3 := hidd hB3
  have HBS := hidd hD.toDiM.baseS
  clear hb hm hd1 hm1 hb3 hD hPT hB3 hf4
  go_wp2_with fail
  refine HPT.out.mono ?_
  rintro e w4 ⟨rfl, hf4, e1, s1, hsrc, -, hsD, hsnx, hsnm, hsN, -, -, hD4, -⟩
  have hB4 : Below w.heap.size w3 w4 := hf4.below HB3.out.size (fun b hb => HBS.out b hb)
  have hB04 := HB3.out.trans hB4
  have he1 : (putS s1 e1).D 0 = some e1 := by
    show updD s1.D s1.nx (some e1) 0 = some e1
    rw [hsnx]; exact updD_same _ _ _
  have hNN : (putS s1 e1).N = 1 := by
    show s1.N = 1
    rw [hsN, f0_files]; rfl
  have hG := dget_some E B _ (putS s1 e1) 0 e1 w4 hD4 (HE.out.below hB04 HE.out.size) ⟨by omega, by omega⟩ (by rw [hNN]; omega) he1
  obtain ⟨hg1, hg2⟩ := got_src hD4 he1
  have hfl : (⟨#[47]⟩ : ByteArray) ∈ e1.fl := by
    show _ ∈ fileL (listed e1.src)
    rw [hsrc]
    rw [fileL_R (show treeE F0.bare = 0 from rfl)]
    exact List.mem_singleton.2 rfl
  obtain ⟨n, x, -, hxn, hin⟩ := fl_ino hD4 he1 hfl
  have hn0 : n = 0 := by have h8 := hD4.klt hxn; rw [hNN] at h8; omega
  subst hn0
  have HIN := hidd (fun W (hW : Below w4.heap.size w4 W) => dinode_any E B _ (putS s1 e1) (0 : Nat) ⟨#[47]⟩ W (hD4.low hW).toDiM ((HE.out.below hB04 HE.out.size).ob hW) (by
    obtain ⟨mv, hmv⟩ := HM.out
    exact ⟨mv, (hW.cell (p := ⟨10, 0, none⟩) (Nat.lt_of_lt_of_le hMl hB04.size)).trans ((hB04.cell (p := ⟨10, 0, none⟩) hMl).trans hmv)⟩) ⟨by omega, by omega⟩ (by decide))
  rw [hin] at HIN
  simp only [inoV] at HIN
  have HG := hidd hG
  have HGG := hidd (⟨hg1, hg2.trans hsrc⟩ : (∀ q ∈ e1.fl, (rdP (putS s1 e1).ls (putS s1 e1).T e1.F q).isSome = true) ∧ fillT (rdG (putS s1 e1) e1) ⟨#[]⟩ e1.tr.bare = F0.bare)
  have HB04 := hidd hB04
  have HSN := hidd hsnx
  clear hf4 hsrc hsD hsnm hsN hD4 hB4 hB04 he1 hNN hG hg1 hg2 hfl hxn hin hsnx
  go_wp2_with fail
  refine HG.out.mono ?_
  rintro e w5 ⟨hb5, ⟨y, he5, hyb, hyo, -, -⟩ | ⟨-, q', hq', hbad⟩⟩
  rotate_left
  · have := HGG.out.1 q' hq'
    rw [hbad] at this
    cases this
  have hyb' := hyb.trans HGG.out.2
  obtain ⟨ya, yc, hyv⟩ := hyo.shape
  obtain ⟨ky, dy, ey, vy, ksy⟩ := y
  have h1 : ky = kFile := congrArg Tr.kind hyb'
  have h2 : dy = ⟨#[120, 121]⟩ := congrArg Tr.data hyb'
  have h3 : ey = false := congrArg Tr.exec hyb'
  subst h1 h2 h3
  simp only [Tr.v, Tr.kids] at hyv
  subst hyv
  have he6 : e = .returned (.tuple #[.agg #[.string kFile, .string ⟨#[120, 121]⟩, .bool false, .slice ya ksy.length yc], .nilIface]) := he5
  subst he6
  have hx5 := Blk.new w5 [.string kFile, .string ⟨#[120, 121]⟩, .bool false, .slice ya ksy.length yc] 32
  have hb6 : Below w4.heap.size w4 (w5.alloc (.cells #[.string kFile, .string ⟨#[120, 121]⟩, .bool false, .slice ya ksy.length yc] 32)) := hb5.alloc hb5.size _
  have HI6 := hidd (HIN.out _ hb6)
  have HB6 := hidd hb6
  clear he5 hyb hyo hyb' hb5 hb6
  go_wp2_with fail
  refine HI6.out.mono ?_
  rintro e w7 ⟨rfl, hb7⟩
  have hx7 := hx5.below hb7 hx5.lt
  have z1 := hx7.cell (i := 1) rfl
  have HB7 : Hid (Below w.heap.size w w7) := hidd ((HB04.out.trans (HB6.out.mono HB04.out.size)).trans (hb7.mono (by have := HB6.out.size; have := HB04.out.size; omega)))
  clear hx5 hx7 hb7
  go_wp2_with fail
  go_ret
  exact ⟨rfl, HB7.out⟩
end Go.Proofs.YtoemahhpheobkaaGreatDoor
