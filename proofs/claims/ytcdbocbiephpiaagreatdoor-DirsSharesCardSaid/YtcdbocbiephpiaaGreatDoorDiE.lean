/- The statement's sharedAll. Condition: the dirs hold two trees. · The statement's sharedAll, walked. Condition: the dirs hold two trees. -/
import Derived.Test.YtcdbocbiephpiaaGreatDoorDiB
import Derived.Test.YtcdbocbiephpiaaGreatDoorDiC
import Derived.Test.YtcdbocbiephpiaaGreatDoorTrE
namespace Go.Proofs.YtcdbocbiephpiaaGreatDoor
open Go.RowKit Go.Shelf

/-- Between two calls of sharedAll. -/
structure ShK (w : World) (L : Loc) (Z K sv : Nat) (y : Lt) (fa fb : Option Addr) (ca cb bw : Nat) (la lb : List ByteArray) (nb : Nat) (s : St) (W : World) : Prop where
  di : DiAt True W L s
  bel : Below L.B w W
  lt : ∀ b, diS L s b → b < Z
  d0 : ∃ e0, s.D 0 = some e0 ∧ e0.fl = la
  d1 : ∃ e1, s.D 1 = some e1 ∧ e1.fl = lb ∧ e1.src = y.bare
  yo : y.Ok W
  yi : y.In (fun b => Z ≤ b)
  ra : Ow (fun g => Z ≤ g) W 9 1 (.slice fa la.length ca) la.length (tcells la)
  rb : Ow (fun g => Z ≤ g) W 9 1 (.slice fb lb.length cb) lb.length (tcells lb)
  bx : Blk W bw [.string y.kind, .string y.data, .bool y.exec, y.v] 24
  bz : Z ≤ bw
  sv : sv ≤ savT s.T K
  N : s.N ≤ nb
section
variable {w : World} {L : Loc} {Z K sv : Nat} {y : Lt} {fa fb : Option Addr} {ca cb bw : Nat} {la lb : List ByteArray} {nb : Nat} {s : St} {W W' : World}
theorem ShK.later (h : ShK w L Z K sv y fa fb ca cb bw la lb nb s W) (hL : L.B ≤ w.heap.size) (hb : Below W.heap.size W W') : ShK w L Z K sv y fa fb ca cb bw la lb nb s W' :=
  { h with di := h.di.low hb, bel := h.bel.trans (hb.mono (Nat.le_trans hL h.bel.size)), yo := h.yo.ob hb, ra := h.ra.ob hb, rb := h.rb.ob hb, bx := h.bx.below hb h.bx.lt }
theorem ShK.share (h : ShK w L Z K sv y fa fb ca cb bw la lb nb s W) (hL : L.B ≤ w.heap.size) {q : ByteArray} {n was : Nat} {e : Dt} {xn xw : Ino} (hf : Fr (diS L s) W W') (he : s.D 1 = some e) (hn : s.T n = some xn) (hw : s.T was = some xw) (hne : was ≠ n) (hd : DiAt True W' L (shS s 1 e q n was xn xw)) (hS : ∀ b, diS L (shS s 1 e q n was xn xw) b → diS L s b) (hdd : xn.data = xw.data) (hK : nb ≤ K) :
    ShK w L Z K sv y fa fb ca cb bw la lb (nb + 3) (shS s 1 e q n was xn xw) W' where
  di := hd
  bel := h.bel.trans (hf.below (Nat.le_trans hL h.bel.size) h.di.toDiM.baseS)
  lt := fun b hb => h.lt b (hS b hb)
  d0 := by
    obtain ⟨e0, h1, h2⟩ := h.d0
    exact ⟨e0, (updD_other s.D 1 (some (e.setE q n)) (by decide : (0 : Nat) ≠ 1)).trans h1, h2⟩
  d1 := by
    obtain ⟨e1, h1, h2, h3⟩ := h.d1
    rw [he] at h1
    have ee : e1 = e := (Option.some.inj h1).symm
    rw [ee] at h2 h3
    exact ⟨e.setE q n, updD_same s.D 1 (some (e.setE q n)), h2, h3⟩
  yo := ok_fr hf _ h.yo (in_mono (fun b hb hd => by have := h.lt b hd; omega) _ h.yi)
  yi := h.yi
  ra := h.ra.fr hf (fun g hg hd => by have := h.lt g hd; have := (h.ra.blk g hg).1; omega)
  rb := h.rb.fr hf (fun g hg hd => by have := h.lt g hd; have := (h.rb.blk g hg).1; omega)
  bx := h.bx.fr hf (fun hd => by have := h.lt _ hd; have := h.bz; omega)
  bz := h.bz
  sv := by
    have o1 := h.di.tb.ok n xn hn
    have o2 := h.di.tb.ok was xw hw
    have h1 := h.di.klt hn
    have h2 := h.di.klt hw
    have h3 := h.N
    refine Nat.le_trans h.sv (savT_share hn hw (fun e => hne e.symm) (by omega) (by omega) (by rw [o1.len, o2.len, hdd]) o1.pos o2.pos)
  N := by have := h.N; show s.N + 3 ≤ nb + 3; omega
/-- Are two inodes alike? -/
def likeB (x z : Ino) : Bool := (x.data.toList == z.data.toList) && (x.exec == z.exec)
theorem like_data {x z : Ino} (h : likeB x z = true) : x.data = z.data ∧ x.exec = z.exec := by
  unfold likeB at h
  rw [Bool.and_eq_true] at h
  refine ⟨?_, by simpa using h.2⟩
  have h1 : x.data.toList = z.data.toList := by simpa using h.1
  rw [Lib.toList_data, Lib.toList_data] at h1
  exact toList_inj h1
theorem like_of {x z : Ino} (h1 : x.data = z.data) (h2 : x.exec = z.exec) : likeB x z = true := by unfold likeB; rw [h1, h2]; simp
/-- Share says just whether they are. -/
theorem sh_like {E : Nat → Addr} (h : DiAt True W L s) {k : Int} {q : ByteArray} {n m : Nat} {x z : Ino} (hi : inoR s.D k q = .ok m) (hn : s.T n = some x) (hm : s.T m = some z) : shE E s k q (n : Int) = if likeB x z = true then none else some (erv E 2) := by
  unfold shE
  rw [hi]
  simp only
  rw [if_pos (show (0 : Int) ≤ (n : Int) by omega), show ((n : Int)).toNat = n by omega, hn]
  simp only
  by_cases e : (m : Int) = (n : Int)
  · have e' : m = n := by omega
    subst e'
    rw [hn] at hm
    obtain rfl := Option.some.inj hm
    rw [if_pos e, if_pos (like_of rfl rfl)]
  · rw [if_neg e, hm]
    simp only
    rw [rdI_pc h.toDiM trivial hm, rdI_pc h.toDiM trivial hn]
    simp only
    by_cases hl : likeB x z = true
    · obtain ⟨h1, h2⟩ := like_data hl
      rw [if_pos hl, h1, h2, if_pos (by simp)]
    · rw [if_neg hl, if_neg (fun hc => hl (by
        have := like_data (x := z) (z := x) hc
        exact like_of this.1.symm this.2.symm))]
theorem ShK.did (h : ShK w L Z K sv y fa fb ca cb bw la lb nb s W) (hL : L.B ≤ w.heap.size) {E : Nat → Addr} {q : ByteArray} {n m : Nat} {x z : Ino} (hi : inoR s.D (1 : Nat) q = .ok m) (hn : s.T n = some x) (hm : s.T m = some z) (hK : nb ≤ K) {e : Ending} (hP : ShP True E L s ((1 : Nat) : Int) q (n : Int) W e W') :
    (likeB x z = true ∧ e = .returned .nilIface ∧ ∃ s', ShK w L Z K sv y fa fb ca cb bw la lb (nb + 3) s' W') ∨ (likeB x z = false ∧ e = .returned (.iface 242 (.pointer (some (E 2)))) ∧ ShK w L Z K sv y fa fb ca cb bw la lb (nb + 3) s W') := by
  have hl := sh_like (E := E) h.di hi hn hm
  cases hx : likeB x z with
  | false =>
    right
    rw [hx, if_neg (by decide)] at hl
    rcases hP with ⟨v, h1, h2, h3⟩ | ⟨h1, -⟩ | ⟨h1, -⟩
    · rw [hl] at h1
      unfold erv at h1
      have := Option.some.inj h1
      rw [← this] at h2
      exact ⟨rfl, h2, { h.later hL h3 with N := Nat.le_trans h.N (by omega) }⟩
    · rw [hl] at h1; cases h1
    · rw [hl] at h1; cases h1
  | true =>
    left
    rw [hx, if_pos rfl] at hl
    rcases hP with ⟨v, h1, -⟩ | ⟨-, h2, h3, -⟩ | ⟨-, h2, h3, k', n', was, e0, xn, xw, e1, e2, g1, g2, g3, g4, g5, g6, g7⟩
    · rw [hl] at h1; cases h1
    · exact ⟨rfl, h2, s, { h.later hL h3 with N := Nat.le_trans h.N (by omega) }⟩
    · obtain rfl : k' = 1 := by omega
      obtain rfl : n' = n := by omega
      have hms : was = m := by
        unfold inoR at hi
        rw [if_pos (by decide), show (((1 : Nat) : Int)).toNat = 1 from rfl, g1] at hi
        simp only at hi
        split at hi
        · cases hi
        · rw [g2] at hi; exact Except.ok.inj hi
      subst hms
      rw [hn] at g3
      rw [hm] at g4
      obtain rfl := Option.some.inj g3
      obtain rfl := Option.some.inj g4
      exact ⟨rfl, h2, _, h.share hL h3 g1 hn hm g5 g6 g7 (like_data hx).1 hK⟩
end
end Go.Proofs.YtcdbocbiephpiaaGreatDoor

namespace Go.Proofs.YtcdbocbiephpiaaGreatDoor
open Go.RowKit Go.Shelf

theorem fileL_bare {t : Lt} (h : treeE t = 0) : fileL (listed t.bare) = fileL (listed t) := by
  have h1 : treeE t.bare = 0 := by rw [show t.bare = t.map fun _ => () from rfl, treeE_map]; exact h
  rw [fileL_R h1, fileL_R h, show filesR t.bare = (filesR t).map fun x => (x.1, x.2.bare) from filesR_mapd _ t, List.map_map]
  rfl
theorem fileL_fine {t : Lt} (h : treeE t = 0) : (∀ q ∈ fileL (listed t), q.size ≤ 1001) ∧ (fileL (listed t)).length ≤ 200 := by
  rw [fileL_R h]
  refine ⟨fun q hq => ?_, ?_⟩
  · obtain ⟨x, hx, rfl⟩ := List.mem_map.1 hq
    exact (file_fine h hx).2
  · rw [List.length_map]; exact filesR_le h

set_option maxRecDepth 100000 in
set_option maxHeartbeats 40000000 in
theorem sharedAll_true (E : Nat → Addr) (B : Nat) (L : Loc) (s0 : St) (a : Lt) (w : World) (ha : a.Ok w) (h : DiAt True w L s0) (hE : Env diGs B w E) (hEB : B ≤ L.B) (hM : Ml w) (hMl : 10 < L.B) (hL : L.B ≤ w.heap.size) (h0 : treeE a = 0)
    (e0 e1 : Dt) (hd0 : s0.D 0 = some e0) (hs0 : e0.src = a.bare) (hd1 : s0.D 1 = some e1) (hN : s0.N ≤ 1000) (hlt : ∀ b, diS L s0 b → b < w.heap.size) :
    Calls Tryz.prog 10 #[.pointer (some ⟨L.d, 0, none⟩), nval a, .int .i64 0, .int .i64 1] w fun e w' => e = .returned (.bool true) ∧ Below L.B w w' := by
  obtain ⟨K, hK⟩ : ∃ K, 500000 ≤ K := ⟨500000, Nat.le_refl _⟩
  obtain ⟨aa, ac, hav⟩ := ha.shape
  have HEE := hidd (fun W (hW : Below L.B w W) => hE.below hW hEB)
  have HML := hidd (fun W (hW : Below L.B w W) => (show Ml W from by
    obtain ⟨mv, hmv⟩ := hM
    exact ⟨mv, (hW.cell (p := ⟨10, 0, none⟩) hMl).trans hmv⟩))
  have HFA := hidd (fun W (hW : Below w.heap.size w W) => files_any E B a W (ha.ob hW) (hE.ob hW).di)
  have HGT := hidd (fun W (hW : Below w.heap.size w W) => dget_some E B L s0 1 e1 W (h.low hW) (hE.ob hW) ⟨by omega, by omega⟩ (by omega) hd1)
  have HSV := hidd (fun W (hW : Below w.heap.size w W) => saved_any L s0 K W (h.low hW).toDiM (by omega) (by omega))
  have HGS := hidd (got_src h hd1)
  have HH := hidd h
  have HA := hidd (⟨h0, hs0, fileL_fine h0⟩ : treeE a = 0 ∧ e0.src = a.bare ∧ (∀ q ∈ fileL (listed a), q.size ≤ 1001) ∧ (fileL (listed a)).length ≤ 200)
  have HLT := hidd hlt
  have hB0 : Below w.heap.size w (w.alloc (.cells #[.string a.kind, .string a.data, .bool a.exec, .slice aa a.kids.length ac] 24)) := (Below.refl _ _).alloc (Nat.le_refl _) _
  have hxa := Blk.new w [.string a.kind, .string a.data, .bool a.exec, .slice aa a.kids.length ac] 24
  have HG0 := hidd (HGT.out _ hB0)
  have HB0 := hidd hB0
  unfold nval at HFA ⊢
  rw [hav] at HFA ⊢
  clear ha hav h hE hM hlt h0 hs0 hB0
  go_enter Tryz.func10, Tryz.ntmps10
  go_wp2_with fail
  refine HG0.out.mono ?_
  rintro e w2 ⟨hb2, ⟨y, he2, hyb, hyo, hyi, -⟩ | ⟨-, q', hq', hbad⟩⟩
  rotate_left
  · have := HGS.out.1 q' hq'
    rw [hbad] at this
    cases this
  have hyb' : y.bare = e1.src := hyb.trans HGS.out.2
  have hy0 : treeE y = 0 := by
    have := (HH.out.well 1 e1 hd1).right
    rw [← hyb', show y.bare = y.map fun _ => () from rfl, treeE_map] at this
    exact this
  obtain ⟨ya, yc, hyv⟩ := hyo.shape
  have he3 : e = .returned (.tuple #[.agg #[.string y.kind, .string y.data, .bool y.exec, .slice ya y.kids.length yc], .nilIface]) := by rw [he2]; unfold nval; rw [hyv]
  subst he3
  have hB2 := HB0.out.trans (hb2.mono HB0.out.size)
  have hB3 := hB2.alloc hB2.size (.cells #[.string y.kind, .string y.data, .bool y.exec, .slice ya y.kids.length yc] 24)
  have hxb := Blk.new w2 [.string y.kind, .string y.data, .bool y.exec, .slice ya y.kids.length yc] 24
  have hxa3 := (hxa.below hb2 hxa.lt).alloc (.cells #[.string y.kind, .string y.data, .bool y.exec, .slice ya y.kids.length yc] 24)
  have hyo3 := hyo.alloc (.cells #[.string y.kind, .string y.data, .bool y.exec, .slice ya y.kids.length yc] 24)
  have HF3 := hidd (HFA.out _ hB3)
  have HFY := hidd (fun W (hy : y.Ok W) (hW : Below w.heap.size w W) => files_any E B y W hy (HEE.out W (hW.mono hL)).di)
  have hzb : w.heap.size ≤ w2.heap.size := hB2.size
  have HY := hidd (⟨hyb', hy0, hyi, fileL_fine hy0⟩ : y.bare = e1.src ∧ treeE y = 0 ∧ y.In (fun b => (w.alloc (.cells #[.string a.kind, .string a.data, .bool a.exec, .slice aa a.kids.length ac] 24)).heap.size ≤ b ∧ b < w2.heap.size) ∧ (∀ q ∈ fileL (listed y), q.size ≤ 1001) ∧ (fileL (listed y)).length ≤ 200)
  unfold nval at HFY
  rw [hyv] at HFY
  have HYV := hidd hyv
  clear he2 hyb hyo hyi hb2 hxa hB2 hyb' hy0 hyv HG0
  go_upto_region 4 with fail
  generalize w2.alloc (.cells #[.string y.kind, .string y.data, .bool y.exec, .slice ya y.kids.length yc] 24) = w3 at *
  have x0 := hxa3.cell (i := 0) rfl
  have x1 := hxa3.cell (i := 1) rfl
  have x2 := hxa3.cell (i := 2) rfl
  have x3 := hxa3.cell (i := 3) rfl
  go_wp2_with fail
  refine HF3.out.mono ?_
  rintro e w4 ⟨fv, rfl, hfo, hb4⟩
  have hB4 := hB3.trans (hb4.mono hB3.size)
  have hxb4 := hxb.below hb4 hxb.lt
  have hyo4 := hyo3.ob hb4
  have hfo4 : Ow (fun g => w.heap.size ≤ g) w4 9 1 fv (fileL (listed a)).length (tcells (fileL (listed a))) := hfo.mono (fun g hg => by have := hB3.size; omega)
  obtain ⟨fa, ca, rfl⟩ := hfo4.shape
  have HFY4 := hidd (HFY.out w4 hyo4 hB4)
  clear x0 x1 x2 x3 hfo hxa3 hxb hyo3 hb4 hB3 HF3
  have y0 := hxb4.cell (i := 0) rfl
  have y1 := hxb4.cell (i := 1) rfl
  have y2 := hxb4.cell (i := 2) rfl
  have y3 := hxb4.cell (i := 3) rfl
  go_wp2_with fail
  refine HFY4.out.mono ?_
  rintro e w5 ⟨gv, rfl, hgo, hb5⟩
  have hB5 := hB4.trans (hb5.mono hB4.size)
  have hxb5 := hxb4.below hb5 hxb4.lt
  have hyo5 := hyo4.ob hb5
  have hfo5 := hfo4.ob hb5
  have hgo5 : Ow (fun g => w.heap.size ≤ g) w5 9 1 gv (fileL (listed y)).length (tcells (fileL (listed y))) := hgo.mono (fun g hg => by have := hB4.size; omega)
  obtain ⟨fb, cb, rfl⟩ := hgo5.shape
  have HSV5 := hidd (HSV.out w5 hB5)
  clear y0 y1 y2 y3 hgo hxb4 hyo4 hfo4 hb5 hB4 HFY4
  go_wp2_with fail
  refine HSV5.out.mono ?_
  rintro e w6 ⟨rfl, hb6⟩
  have hB6 := hB5.trans (hb6.mono hB5.size)
  obtain ⟨la, hla⟩ : ∃ l, fileL (listed a) = l := ⟨_, rfl⟩
  obtain ⟨lb, hlb⟩ : ∃ l, fileL (listed y) = l := ⟨_, rfl⟩
  have HK0 : Hid (ShK w L w.heap.size K (savT s0.T K) y fa fb ca cb w2.heap.size la lb 1000 s0 w6) := hidd {
    di := HH.out.low hB6
    bel := hB6.mono hL
    lt := HLT.out
    d0 := ⟨e0, hd0, by show fileL (listed e0.src) = la; rw [HA.out.2.1, fileL_bare HA.out.1]; exact hla⟩
    d1 := ⟨e1, hd1, by show fileL (listed e1.src) = lb; rw [← HY.out.1, fileL_bare HY.out.2.1]; exact hlb, HY.out.1.symm⟩
    yo := hyo5.ob hb6
    yi := in_mono (fun b hb => by have := HB0.out.size; omega) _ HY.out.2.2.1
    ra := by rw [← hla]; exact hfo5.ob hb6
    rb := by rw [← hlb]; exact hgo5.ob hb6
    bx := by rw [HYV.out]; exact hxb5.below hb6 hxb5.lt
    bz := hzb
    sv := Nat.le_refl _
    N := hN }
  have HSZ : Hid ((∀ q ∈ la, q.size ≤ 1001) ∧ (∀ q ∈ lb, q.size ≤ 1001) ∧ la.length ≤ 200 ∧ lb.length ≤ 200) := hidd ⟨by rw [← hla]; exact HA.out.2.2.1, by rw [← hlb]; exact HY.out.2.2.2.1, by rw [← hla]; exact HA.out.2.2.2, by rw [← hlb]; exact HY.out.2.2.2.2⟩
  rw [hla, hlb]
  obtain ⟨n1, hn1⟩ : ∃ n, la.length = n := ⟨_, rfl⟩
  obtain ⟨n2, hn2⟩ : ∃ n, lb.length = n := ⟨_, rfl⟩
  have HN1 := hidd hn1
  have HN2 := hidd hn2
  have hb1 : n1 ≤ 200 := by rw [← hn1]; exact HSZ.out.2.2.1
  have hb2 : n2 ≤ 200 := by rw [← hn2]; exact HSZ.out.2.2.2
  rw [hn1, hn2]
  obtain ⟨sv, hsv⟩ : ∃ n, savT s0.T K = n := ⟨_, rfl⟩
  have HSVV := hidd hsv
  rw [hsv] at HK0 ⊢
  clear hla hlb hn1 hn2 hsv hB5 hxb5 hyo5 hfo5 hgo5 hb6 hB6 HSV5 hzb HFA HGT HSV HGS HH HA HFY HY hd0 hd1 hN
  go_wp2_with fail
  go_loopw [14, 15, 16, 17, 18, 19, 20, 21, 22, 23, 24, 25, 26] (fun iv _ _ _ _ _ _ _ _ _ _ _ _ wr => ∃ (i : Nat) (s : St), i ≤ n2 ∧ iv = .int .i64 (i : Int) ∧ ShK w L w.heap.size K sv y fa fb ca cb w2.heap.size la lb (1000 + 3 * (i * n1)) s wr) (fun iv _ _ _ _ _ _ _ _ _ _ _ _ _ => n2 - (intOf iv).toNat)
  case atStart => exact ⟨0, s0, Nat.zero_le _, rfl, by simpa using HK0.out⟩
  case round =>
    obtain ⟨i, s, hi, rfl, hK1⟩ := hrel
    clear HK0
    by_cases hlt : i < n2
    · have p1 : (0 : Int) ≤ (i : Int) := by omega
      have p2 : (i : Int) < (n2 : Int) := by omega
      have HK1 := hidd hK1
      clear hK1
      go_wp2_with fail
      go_loopw [15, 16, 17, 18, 19, 20, 21, 22, 23, 24, 25, 26] (fun kv _ _ _ _ _ _ _ _ _ _ _ wr => ∃ (k : Nat) (s : St), k ≤ n1 ∧ kv = .int .i64 (k : Int) ∧ ShK w L w.heap.size K sv y fa fb ca cb w2.heap.size la lb (1000 + 3 * (i * n1) + 3 * k) s wr) (fun kv _ _ _ _ _ _ _ _ _ _ _ _ => n1 - (intOf kv).toNat)
      case atStart => exact ⟨0, s, Nat.zero_le _, rfl, HK1.out⟩
      case round =>
        obtain ⟨k, s, hk, rfl, hK2⟩ := hrel
        by_cases hlk : k < n1
        · have hk' : k < la.length := by rw [HN1.out]; exact hlk
          have hi' : i < lb.length := by rw [HN2.out]; exact hlt
          obtain ⟨b1, o1, rfl, hbl1, hc1, hr1⟩ := hK2.ra.sl.at1 hk'
          obtain ⟨b2, o2, rfl, hbl2, hc2, hr2⟩ := hK2.rb.sl.at1 hi'
          rw [show (tcells la)[k] = .string la[k] by simp [tcells]] at hr1
          rw [show (tcells lb)[i] = .string lb[i] by simp [tcells]] at hr2
          obtain ⟨e0', hd0, hfl0⟩ := hK2.d0
          obtain ⟨e1', hd1, hfl1, -⟩ := hK2.d1
          obtain ⟨n, x, -, hxn, hin⟩ := fl_ino hK2.di hd0 (q := la[k]) (by rw [hfl0]; exact List.getElem_mem hk')
          obtain ⟨m, z, -, hzm, him⟩ := fl_ino hK2.di hd1 (q := lb[i]) (by rw [hfl1]; exact List.getElem_mem hi')
          have hs1 := HSZ.out.1 _ (List.getElem_mem hk')
          have hs2 := HSZ.out.2.1 _ (List.getElem_mem hi')
          obtain ⟨q1, hq1⟩ : ∃ q, la[k] = q := ⟨_, rfl⟩
          obtain ⟨q2, hq2⟩ : ∃ q, lb[i] = q := ⟨_, rfl⟩
          rw [hq1] at hr1 hin hs1
          rw [hq2] at hr2 him hs2
          have hmul : i * n1 ≤ 40000 := Nat.mul_le_mul (show i ≤ 200 by omega) hb1
          obtain ⟨NB, hNB⟩ : ∃ v, 1000 + 3 * (i * n1) + 3 * k = v := ⟨_, rfl⟩
          have HNB := hidd hNB
          rw [hNB] at hK2
          have hKK : NB ≤ K := by omega
          have hsN : s.N ≤ 500000 := by have := hK2.N; omega
          have hkn := hK2.di.klt hxn
          have hkm := hK2.di.klt hzm
          have HIA := hidd (fun W (hW : ShK w L w.heap.size K sv y (some ⟨b1, o1, none⟩) (some ⟨b2, o2, none⟩) ca cb w2.heap.size la lb NB s W) => (dinode_any E B L s 0 q1 W hW.di.toDiM (HEE.out W hW.bel) (HML.out W hW.bel) ⟨by omega, by omega⟩ (by omega)).mono (fun e w' h => (show e = .returned (.tuple #[.int .i64 (n : Int), .nilIface]) ∧ Below W.heap.size W w' from ⟨by rw [h.1, show inoR s.D 0 q1 = .ok n from hin]; rfl, h.2⟩)))
          have HIB := hidd (fun W (hW : ShK w L w.heap.size K sv y (some ⟨b1, o1, none⟩) (some ⟨b2, o2, none⟩) ca cb w2.heap.size la lb NB s W) => (dinode_any E B L s 1 q2 W hW.di.toDiM (HEE.out W hW.bel) (HML.out W hW.bel) ⟨by omega, by omega⟩ (by omega)).mono (fun e w' h => (show e = .returned (.tuple #[.int .i64 (m : Int), .nilIface]) ∧ Below W.heap.size W w' from ⟨by rw [h.1, show inoR s.D 1 q2 = .ok m from him]; rfl, h.2⟩)))
          have HTB := hidd (fun W (hW : ShK w L w.heap.size K sv y (some ⟨b1, o1, none⟩) (some ⟨b2, o2, none⟩) ca cb w2.heap.size la lb NB s W) => dtable_any L s W hW.di.toDiM)
          have HRA := hidd (fun W (hW : ShK w L w.heap.size K sv y (some ⟨b1, o1, none⟩) (some ⟨b2, o2, none⟩) ca cb w2.heap.size la lb NB s W) => (dread_any E B L s n x W hW.di.toDiM (HEE.out W hW.bel) (by omega) hxn).mono (fun e w' h => (show e = .returned (.tuple #[.string x.data, .nilIface]) ∧ Below W.heap.size W w' from ⟨by rw [h.1, rdI_pc hW.di.toDiM trivial hxn]; rfl, h.2⟩)))
          have HRB := hidd (fun W (hW : ShK w L w.heap.size K sv y (some ⟨b1, o1, none⟩) (some ⟨b2, o2, none⟩) ca cb w2.heap.size la lb NB s W) => (dread_any E B L s m z W hW.di.toDiM (HEE.out W hW.bel) (by omega) hzm).mono (fun e w' h => (show e = .returned (.tuple #[.string z.data, .nilIface]) ∧ Below W.heap.size W w' from ⟨by rw [h.1, rdI_pc hW.di.toDiM trivial hzm]; rfl, h.2⟩)))
          have HSA := hidd (fun W (hW : ShK w L w.heap.size K sv y (some ⟨b1, o1, none⟩) (some ⟨b2, o2, none⟩) ca cb w2.heap.size la lb NB s W) => stat_ok L.B L.t L.p L.r L.ps L.rs L.m s.N s.T s.us s.ls n x W hW.di.tb (by omega) hxn)
          have HSB := hidd (fun W (hW : ShK w L w.heap.size K sv y (some ⟨b1, o1, none⟩) (some ⟨b2, o2, none⟩) ca cb w2.heap.size la lb NB s W) => stat_ok L.B L.t L.p L.r L.ps L.rs L.m s.N s.T s.us s.ls m z W hW.di.tb (by omega) hzm)
          have HSH := hidd (fun W (hW : ShK w L w.heap.size K sv y (some ⟨b1, o1, none⟩) (some ⟨b2, o2, none⟩) ca cb w2.heap.size la lb NB s W) => (dshare_any E B L s 1 q2 (n : Int) W hW.di (HEE.out W hW.bel) (HML.out W hW.bel) (by omega) ⟨by omega, by omega⟩ ⟨by omega, by omega⟩ (by omega)).mono (fun e w' h => hW.did hL him hxn hzm hKK h))
          have HK2 := hidd hK2
          have p3 : (0 : Int) ≤ (k : Int) := by omega
          have p4 : (k : Int) < (n1 : Int) := by omega
          clear hK2 hin him hxn hzm hq1 hq2 hfl0 hfl1 hd0 hd1 hc1 hc2 hNB hk' hi'
          go_wp2_with fail
          refine (HIA.out wr HK2.out).mono ?_
          rintro e v1 ⟨rfl, hv1⟩
          have HK3 := hidd (HK2.out.later hL hv1)
          have g1 : v1.cell? ⟨b2, o2 + i, none⟩ = some (.string q2) := (hv1.cell (p := ⟨b2, o2 + i, none⟩) hbl2).trans hr2
          have hbl3 : b2 < v1.heap.size := Nat.lt_of_lt_of_le hbl2 hv1.size
          clear hr1 hr2 hv1 hbl1 hbl2
          go_wp2_with fail
          refine (HIB.out v1 HK3.out).mono ?_
          rintro e v2 ⟨rfl, hv2⟩
          have HK4 := hidd (HK3.out.later hL hv2)
          have g2 : v2.cell? ⟨b2, o2 + i, none⟩ = some (.string q2) := (hv2.cell (p := ⟨b2, o2 + i, none⟩) hbl3).trans g1
          have hbl4 : b2 < v2.heap.size := Nat.lt_of_lt_of_le hbl3 hv2.size
          clear g1 hv2 hbl3
          go_wp2_with fail
          refine (HTB.out v2 HK4.out).mono ?_
          rintro e v2' ⟨rfl, rfl⟩
          go_wp2_with fail
          refine (HRA.out v2 HK4.out).mono ?_
          rintro e v3 ⟨rfl, hv3⟩
          have HK5 := hidd (HK4.out.later hL hv3)
          have g3 : v3.cell? ⟨b2, o2 + i, none⟩ = some (.string q2) := (hv3.cell (p := ⟨b2, o2 + i, none⟩) hbl4).trans g2
          have hbl5 : b2 < v3.heap.size := Nat.lt_of_lt_of_le hbl4 hv3.size
          clear g2 hv3 hbl4
          go_wp2_with fail
          refine (HTB.out v3 HK5.out).mono ?_
          rintro e v3' ⟨rfl, rfl⟩
          go_wp2_with fail
          refine (HRB.out v3 HK5.out).mono ?_
          rintro e v4 ⟨rfl, hv4⟩
          have HK6 := hidd (HK5.out.later hL hv4)
          have g4 : v4.cell? ⟨b2, o2 + i, none⟩ = some (.string q2) := (hv4.cell (p := ⟨b2, o2 + i, none⟩) hbl5).trans g3
          have hbl6 : b2 < v4.heap.size := Nat.lt_of_lt_of_le hbl5 hv4.size
          clear g3 hv4 hbl5
          go_wp2_with fail
          refine (HTB.out v4 HK6.out).mono ?_
          rintro e v4' ⟨rfl, rfl⟩
          go_wp2_with fail
          refine (HSA.out v4 HK6.out).mono ?_
          rintro e v5 ⟨xa, xc, rfl, -, hv5⟩
          have hv6 : Below v4.heap.size v4 (v5.alloc (.cells #[.int .i64 (x.data.size : Int), .int .i64 (x.links : Int), .bool x.exec, .slice xa x.bl.length xc, .int .u32 (crc x.data.data.toList : Nat)] 56)) := hv5.alloc hv5.size _
          have hx6 := Blk.new v5 [.int .i64 (x.data.size : Int), .int .i64 (x.links : Int), .bool x.exec, .slice xa x.bl.length xc, .int .u32 (crc x.data.data.toList : Nat)] 56
          have HK7 := hidd (HK6.out.later hL hv6)
          have g6 := (hv6.cell (p := ⟨b2, o2 + i, none⟩) hbl6).trans g4
          have hbl7 := Nat.lt_of_lt_of_le hbl6 hv6.size
          clear g4 hv5 hv6 hbl6
          go_upto_region 20 with fail
          generalize v5.alloc (.cells #[.int .i64 (x.data.size : Int), .int .i64 (x.links : Int), .bool x.exec, .slice xa x.bl.length xc, .int .u32 (crc x.data.data.toList : Nat)] 56) = v6 at *
          go_wp2_with fail
          refine (HTB.out v6 HK7.out).mono ?_
          rintro e v6' ⟨rfl, rfl⟩
          go_wp2_with fail
          refine (HSB.out v6 HK7.out).mono ?_
          rintro e v7 ⟨za, zc, rfl, -, hv7⟩
          have hv8 : Below v6.heap.size v6 (v7.alloc (.cells #[.int .i64 (z.data.size : Int), .int .i64 (z.links : Int), .bool z.exec, .slice za z.bl.length zc, .int .u32 (crc z.data.data.toList : Nat)] 56)) := hv7.alloc hv7.size _
          have hx8 := Blk.new v7 [.int .i64 (z.data.size : Int), .int .i64 (z.links : Int), .bool z.exec, .slice za z.bl.length zc, .int .u32 (crc z.data.data.toList : Nat)] 56
          have HK8 := hidd (HK7.out.later hL hv8)
          have g8 := (hv8.cell (p := ⟨b2, o2 + i, none⟩) hbl7).trans g6
          have hx68 := hx6.below hv8 hx6.lt
          clear g6 hv7 hv8 hbl7 hx6
          go_upto_region 21 with fail
          generalize v7.alloc (.cells #[.int .i64 (z.data.size : Int), .int .i64 (z.links : Int), .bool z.exec, .slice za z.bl.length zc, .int .u32 (crc z.data.data.toList : Nat)] 56) = v8 at *
          have t2 := hx68.cell (i := 2) rfl
          have u2 := hx8.cell (i := 2) rfl
          have HS8 := hidd (HSH.out v8 HK8.out)
          clear hx68 hx8
          have hlke : likeB x z = ((x.data.toList == z.data.toList) && (x.exec == z.exec)) := rfl
          have HLE := hidd hlke
          clear hlke
          cases hda : (x.data.toList == z.data.toList) with
          | false =>
            have HLF : Hid (likeB x z = false) := hidd (by rw [HLE.out, hda]; rfl)
            go_wp2_with fail
            refine HS8.out.mono ?_
            rintro e v9 (⟨hl, -⟩ | ⟨-, rfl, hK9⟩)
            · rw [HLF.out] at hl; cases hl
            have HK9 := hidd hK9
            clear hK9
            go_wp2_with fail
            go_roundw
            case rel => exact ⟨k + 1, s, hlk, by go_num, by have := HK9.out; rw [← HNB.out] at this; rw [Nat.mul_add, ← Nat.add_assoc]; exact this⟩
            case measure => simp [intOf]; omega
          | true =>
            cases hea : (x.exec == z.exec) with
            | false =>
              have HLF : Hid (likeB x z = false) := hidd (by rw [HLE.out, hda, hea]; rfl)
              go_wp2_with fail
              refine HS8.out.mono ?_
              rintro e v9 (⟨hl, -⟩ | ⟨-, rfl, hK9⟩)
              · rw [HLF.out] at hl; cases hl
              have HK9 := hidd hK9
              clear hK9
              go_wp2_with fail
              go_roundw
              case rel => exact ⟨k + 1, s, hlk, by go_num, by have := HK9.out; rw [← HNB.out] at this; rw [Nat.mul_add, ← Nat.add_assoc]; exact this⟩
              case measure => simp [intOf]; omega
            | true =>
              have HLF : Hid (likeB x z = true) := hidd (by rw [HLE.out, hda, hea]; rfl)
              go_wp2_with fail
              refine HS8.out.mono ?_
              rintro e v9 (⟨-, rfl, s', hK9⟩ | ⟨hl, -⟩)
              rotate_left
              · rw [HLF.out] at hl; cases hl
              have HK9 := hidd hK9
              clear hK9
              go_wp2_with fail
              go_roundw
              case rel => exact ⟨k + 1, s', hlk, by go_num, by have := HK9.out; rw [← HNB.out] at this; rw [Nat.mul_add, ← Nat.add_assoc]; exact this⟩
              case measure => simp [intOf]; omega
        · obtain rfl : k = n1 := by omega
          have HK2 := hidd hK2
          have p4 : ¬ ((k : Int) < (k : Int)) := by omega
          clear hK2
          go_wp2_with fail
          go_roundw
          case rel => exact ⟨i + 1, s, hlt, by go_num, by have := HK2.out; rw [Nat.add_mul, Nat.one_mul, Nat.mul_add, ← Nat.add_assoc]; exact this⟩
          case measure => simp [intOf]; omega
    · obtain rfl : i = n2 := by omega
      obtain ⟨e1', hd1, hfl1, hsr1⟩ := hK1.d1
      have hNs : s.N ≤ 500000 := by
        have := hK1.N
        have : i * n1 ≤ 40000 := Nat.mul_le_mul (show i ≤ 200 by omega) hb1
        omega
      have HGT := hidd (dget_some E B L s 1 e1' wr hK1.di (HEE.out wr hK1.bel) ⟨by omega, by omega⟩ (by omega) hd1)
      have HGS := hidd (got_src hK1.di hd1)
      have HSR := hidd hsr1
      have HK1 := hidd hK1
      have HSV := hidd (fun W (hW : ShK w L w.heap.size K sv y fa fb ca cb w2.heap.size la lb (1000 + 3 * (i * n1)) s W) => saved_any L s K W hW.di.toDiM (by omega) (by omega))
      have HSM := hidd (fun W (y2 : Lt) (h2 : y2.Ok W) (hb : y2.bare = y.bare) (hW : ShK w L w.heap.size K sv y fa fb ca cb w2.heap.size la lb (1000 + 3 * (i * n1)) s W) => same_any y2 y W true h2 hW.yo ⟨fun _ => hb, fun _ => rfl⟩)
      have p4 : ¬ ((i : Int) < (i : Int)) := by omega
      unfold nval at HSM
      rw [HYV.out] at HSM
      have hsvle : sv ≤ savT s.T K := hK1.sv
      obtain ⟨sv2, hsv2⟩ : ∃ v, savT s.T K = v := ⟨_, rfl⟩
      rw [hsv2] at HSV hsvle
      have q9 : (sv : Int) ≤ (sv2 : Int) := by omega
      clear hK1 hd1 hfl1 hsr1 hsv2
      go_wp2_with fail
      refine HGT.out.mono ?_
      rintro e v2 ⟨hv2, ⟨y2, he2, hyb, hyo, -, -⟩ | ⟨-, q', hq', hbad⟩⟩
      rotate_left
      · have := HGS.out.1 q' hq'
        rw [hbad] at this
        cases this
      have hyb' : y2.bare = y.bare := (hyb.trans HGS.out.2).trans HSR.out
      obtain ⟨za, zc, hzv⟩ := hyo.shape
      have he3 : e = .returned (.tuple #[.agg #[.string y2.kind, .string y2.data, .bool y2.exec, .slice za y2.kids.length zc], .nilIface]) := by rw [he2]; unfold nval; rw [hzv]
      subst he3
      have hv3 : Below wr.heap.size wr (v2.alloc (.cells #[.string y2.kind, .string y2.data, .bool y2.exec, .slice za y2.kids.length zc] 24)) := hv2.alloc hv2.size _
      have hx3 := Blk.new v2 [.string y2.kind, .string y2.data, .bool y2.exec, .slice za y2.kids.length zc] 24
      have HK3 := hidd (HK1.out.later hL hv3)
      have hs3 := HSM.out _ y2 (hyo.alloc (.cells #[.string y2.kind, .string y2.data, .bool y2.exec, .slice za y2.kids.length zc] 24)) hyb' HK3.out
      rw [hzv] at hs3
      have HS3 := hidd hs3
      clear he2 hyb hyo hyb' hzv hv2 hv3 hs3
      go_upto_region 25 with fail
      generalize v2.alloc (.cells #[.string y2.kind, .string y2.data, .bool y2.exec, .slice za y2.kids.length zc] 24) = v3 at *
      have hx := HK3.out.bx
      rw [HYV.out] at hx
      have x0 := hx3.cell (i := 0) rfl
      have x1 := hx3.cell (i := 1) rfl
      have x2 := hx3.cell (i := 2) rfl
      have x3 := hx3.cell (i := 3) rfl
      have y0 := hx.cell (i := 0) rfl
      have y1 := hx.cell (i := 1) rfl
      have y3' := hx.cell (i := 2) rfl
      have y3 := hx.cell (i := 3) rfl
      clear hx hx3
      go_wp2_with fail
      refine HS3.out.mono ?_
      rintro e v4 ⟨rfl, hv4⟩
      have HK4 := hidd (HK3.out.later hL hv4)
      have HS4 := hidd (HSV.out v4 HK4.out)
      clear hv4 x0 x1 x2 x3 y0 y1 y3' y3
      go_wp2_with fail
      refine HS4.out.mono ?_
      rintro e v5 ⟨rfl, hv5⟩
      have HB5 := hidd (HK4.out.later hL hv5).bel
      clear hv5
      go_wp2_with fail
      go_ret
      exact ⟨rfl, HB5.out⟩
end Go.Proofs.YtcdbocbiephpiaaGreatDoor
