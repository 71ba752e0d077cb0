/- The statement's sharedAll. Condition: the dirs hold two trees. · The statement's sharedAll, walked. Condition: the dirs hold two trees. · DirsShares, walked. Condition: the arguments and the variables are there. -/
import Derived.Test.YtoemahhpheobkaaGreatDoorDiB
import Derived.Test.YtoemahhpheobkaaGreatDoorDiC
import Derived.Test.YtoemahhpheobkaaGreatDoorTrE
import Derived.Test.YtoemahhpheobkaaGreatDoorTrD
namespace Go.Proofs.YtoemahhpheobkaaGreatDoor
open Go.RowKit Go.Shelf

/-- Between two calls of sharedAll. -/
structure ShK (w : World) (L : Loc) (Z K sv : Nat) (y : Lt) (fa fb : Option Addr) (ca cb bw : Nat) (la lb : List ByteArray) (nb : Nat) (s : St) (W : World) : Prop where
  di : DiAt True W L s
  bel : Below L.B w W
  lt : ∀ b, diS L s b → b < Z
  d0 : ∃ e0, s.D 0 = some e0 ∧ e0.fl = la
  d1 : ∃ e1, s.D 1 = some e1 ∧ e1.fl = lb ∧ e1.src = y.bare
  yo : y.Ok W
  yi : y.In (fun b => Z ≤ b)
  ra : Ow (fun g => Z ≤ g) W 9 1 (.slice fa la.length ca) la.length (tcells la)
  rb : Ow (fun g => Z ≤ g) W 9 1 (.slice fb lb.length cb) lb.length (tcells lb)
  bx : Blk W bw [.string y.kind, .string y.data, .bool y.exec, y.v] 32
  bz : Z ≤ bw
  sv : sv ≤ savT s.T K
  N : s.N ≤ nb
section
variable {w : World} {L : Loc} {Z K sv : Nat} {y : Lt} {fa fb : Option Addr} {ca cb bw : Nat} {la lb : List ByteArray} {nb : Nat} {s : St} {W W' : World}
theorem ShK.later (h : ShK w L Z K sv y fa fb ca cb bw la lb nb s W) (hL : L.B ≤ w.heap.size) (hb : Below W.heap.size W W') : ShK w L Z K sv y fa fb ca cb bw la lb nb s W' :=
  { h with di := h.di.low hb, bel := h.bel.trans (hb.mono (Nat.le_trans hL h.bel.size)), yo := h.yo.ob hb, ra := h.ra.ob hb, rb := h.rb.ob hb, bx := h.bx.below hb h.bx.lt }
theorem ShK.share (h : ShK w L Z K sv y fa fb ca cb bw la lb nb s W) (hL : L.B ≤ w.heap.size) {q : ByteArray} {n was : Nat} {e : Dt} {xn xw : Ino} (hf : Fr (diS L s) W W') (he : s.D 1 = some e) (hn : s.T n = some xn) (hw : s.T was = some xw) (hne : was ≠ n) (hd : DiAt True W' L (shS s 1 e q n was xn xw)) (hS : ∀ b, diS L (shS s 1 e q n was xn xw) b → diS L s b) (hdd : xn.data = xw.data) (hK : nb ≤ K) :
    ShK w L Z K sv y fa fb ca cb bw la lb (nb + 3) (shS s 1 e q n was xn xw) W' where
  di := hd
  bel := h.bel.trans (hf.below (Nat.le_trans hL h.bel.size) h.di.toDiM.baseS)
  lt := fun b hb => h.lt b (hS b hb)
  d0 := by
    obtain ⟨e0, h1, h2⟩ := h.d0
    exact ⟨e0, (updD_other s.D 1 (some (e.setE q n)) (by decide : (0 : Nat) ≠ 1)).trans h1, h2⟩
  d1 := by
    obtain ⟨e1, h1, h2, h3⟩ := h.d1
    rw [he] at h1
    have ee : e1 = e := (Option.some.inj h1).symm
    rw [ee] at h2 h3
    exact ⟨e.setE q n, updD_same s.D 1 (some (e.setE q n)), h2, h3⟩
  yo := ok_fr hf _ h.yo (in_mono (fun b hb hd => by have := h.lt b hd; omega) _ h.yi)
  yi := h.yi
  ra := h.ra.fr hf (fun g hg hd => by have := h.lt g hd; have := (h.ra.blk g hg).1; omega)
  rb := h.rb.fr hf (fun g hg hd => by have := h.lt g hd; have := (h.rb.blk g hg).1; omega)
  bx := h.bx.fr hf (fun hd => by have := h.lt _ hd; have := h.bz; omega)
  bz := h.bz
  sv := by
    have o1 := h.di.tb.ok n xn hn
    have o2 := h.di.tb.ok was xw hw
    have h1 := h.di.klt hn
    have h2 := h.di.klt hw
    have h3 := h.N
    refine Nat.le_trans h.sv (savT_share hn hw (fun e => hne e.symm) (by omega) (by omega) (by rw [o1.len, o2.len, hdd]) o1.pos o2.pos)
  N := by have := h.N; show s.N + 3 ≤ nb + 3; omega
/-- Are two inodes alike? -/
def likeB (x z : Ino) : Bool := (x.data.toList == z.data.toList) && (x.exec == z.exec)
theorem like_data {x z : Ino} (h : likeB x z = true) : x.data = z.data ∧ x.exec = z.exec := by
  unfold likeB at h
  rw [Bool.and_eq_true] at h
  refine ⟨?_, by simpa using h.2⟩
  have h1 : x.data.toList = z.data.toList := by simpa using h.1
  rw [Lib.toList_data, Lib.toList_data] at h1
  exact toList_inj h1
theorem like_of {x z : Ino} (h1 : x.data = z.data) (h2 : x.exec = z.exec) : likeB x z = true := by unfold likeB; rw [h1, h2]; simp
/-- Share says just whether they are. -/
theorem sh_like {E : Nat → Addr} (h : DiAt True W L s) {k : Int} {q : ByteArray} {n m : Nat} {x z : Ino} (hi : inoR s.D k q = .ok m) (hn : s.T n = some x) (hm : s.T m = some z) : shE E s k q (n : Int) = if likeB x z = true then none else some (erv E 2) := by
  unfold shE
  rw [hi]
  simp only
  rw [if_pos (show (0 : Int) ≤ (n : Int) by omega), show ((n : Int)).toNat = n by omega, hn]
  simp only
  by_cases e : (m : Int) = (n : Int)
  · have e' : m = n := by omega
    subst e'
    rw [hn] at hm
    obtain rfl := Option.some.inj hm
    rw [if_pos e, if_pos (like_of rfl rfl)]
  · rw [if_neg e, hm]
    simp only
    rw [rdI_pc h.toDiM trivial hm, rdI_pc h.toDiM trivial hn]
    simp only
    by_cases hl : likeB x z = true
    · obtain ⟨h1, h2⟩ := like_data hl
      rw [if_pos hl, h1, h2, if_pos (by simp)]
    · rw [if_neg hl, if_neg (fun hc => hl (by
        have := like_data (x := z) (z := x) hc
        exact like_of this.1.symm this.2.symm))]
theorem ShK.did (h : ShK w L Z K sv y fa fb ca cb bw la lb nb s W) (hL : L.B ≤ w.heap.size) {E : Nat → Addr} {q : ByteArray} {n m : Nat} {x z : Ino} (hi : inoR s.D (1 : Nat) q = .ok m) (hn : s.T n = some x) (hm : s.T m = some z) (hK : nb ≤ K) {e : Ending} (hP : ShP True E L s ((1 : Nat) : Int) q (n : Int) W e W') :
    (likeB x z = true ∧ e = .returned .nilIface ∧ ∃ s', ShK w L Z K sv y fa fb ca cb bw la lb (nb + 3) s' W') ∨ (likeB x z = false ∧ e = .returned (.iface 249 (.pointer (some (E 2)))) ∧ ShK w L Z K sv y fa fb ca cb bw la lb (nb + 3) s W') := by
  have hl := sh_like (E := E) h.di hi hn hm
  cases hx : likeB x z with
  | false =>
    right
    rw [hx, if_neg (by decide)] at hl
    rcases hP with ⟨v, h1, h2, h3⟩ | ⟨h1, -⟩ | ⟨h1, -⟩
    · rw [hl] at h1
      unfold erv at h1
      have := Option.some.inj h1
      rw [← this] at h2
      exact ⟨rfl, h2, { h.later hL h3 with N := Nat.le_trans h.N (by omega) }⟩
    · rw [hl] at h1; cases h1
    · rw [hl] at h1; cases h1
  | true =>
    left
    rw [hx, if_pos rfl] at hl
    rcases hP with ⟨v, h1, -⟩ | ⟨-, h2, h3, -⟩ | ⟨-, h2, h3, k', n', was, e0, xn, xw, e1, e2, g1, g2, g3, g4, g5, g6, g7⟩
    · rw [hl] at h1; cases h1
    · exact ⟨rfl, h2, s, { h.later hL h3 with N := Nat.le_trans h.N (by omega) }⟩
    · obtain rfl : k' = 1 := by omega
      obtain rfl : n' = n := by omega
      have hms : was = m := by
        unfold inoR at hi
        rw [if_pos (by decide), show (((1 : Nat) : Int)).toNat = 1 from rfl, g1] at hi
        simp only at hi
        split at hi
        · cases hi
        · rw [g2] at hi; exact Except.ok.inj hi
      subst hms
      rw [hn] at g3
      rw [hm] at g4
      obtain rfl := Option.some.inj g3
      obtain rfl := Option.some.inj g4
      exact ⟨rfl, h2, _, h.share hL h3 g1 hn hm g5 g6 g7 (like_data hx).1 hK⟩
end
end Go.Proofs.YtoemahhpheobkaaGreatDoor

namespace Go.Proofs.YtoemahhpheobkaaGreatDoor
open Go.RowKit Go.Shelf

theorem fileL_bare {t : Lt} (h : treeE t = 0) : fileL (listed t.bare) = fileL (listed t) := by
  have h1 : treeE t.bare = 0 := by rw [show t.bare = t.map fun _ => () from rfl, treeE_map]; exact h
  rw [fileL_R h1, fileL_R h, show filesR t.bare = (filesR t).map fun x => (x.1, x.2.bare) from filesR_mapd _ t, List.map_map]
  rfl
theorem fileL_fine {t : Lt} (h : treeE t = 0) : (∀ q ∈ fileL (listed t), q.size ≤ 1001) ∧ (fileL (listed t)).length ≤ 200 := by
  rw [fileL_R h]
  refine ⟨fun q hq => ?_, ?_⟩
  · obtain ⟨x, hx, rfl⟩ := List.mem_map.1 hq
    exact (file_fine h hx).2
  · rw [List.length_map]; exact filesR_le h

end Go.Proofs.YtoemahhpheobkaaGreatDoor

namespace Go.Proofs.YtoemahhpheobkaaGreatDoor
open Go.RowKit Go.Shelf

theorem DiM.ltS {pc : Prop} {w : World} {L : Loc} {s : St} (h : DiM pc w L s) : ∀ b, diS L s b → b < w.heap.size := fun b hb => by
  rcases hb with (hb | hb | hb | hb | ⟨i, y, hy, hb⟩) | hb | hb | ⟨i, f, hf', hb⟩
  · rw [hb]; exact h.tb.dk.head.lt
  · rw [hb]; exact h.tb.dk.row.lt
  · rw [hb]; exact h.tb.sp.row.lt
  · obtain ⟨n0, -, hmm⟩ := h.tb.mp
    rw [hb]; exact hmm.lt
  · rw [hb]; exact (h.tb.ino i y hy).blk.lt
  · rw [hb]; exact h.bk.lt
  · rw [hb]; exact h.mp.lt
  · rw [hb]; exact (h.fms i f hf').lt
/-- What a Put leaves, whether or not it is one. -/
def PuX (L : Loc) (s : St) (t : Lt) (w : World) (e : Ending) (w' : World) : Prop :=
  Below L.B w w' ∧ ∃ (v : Int) (c : Value) (s' : St), e = .returned (.tuple #[.int .i64 v, c]) ∧ DiAt True w' L s' ∧ s'.N ≤ s.N + 200 ∧ s'.nm ≤ s.nm + 1 ∧ s'.nx ≤ s.nx + 1 ∧
    ((∃ a, c = .iface 249 a) ∨ (c = .nilIface ∧ v = (s.nx : Int) ∧ s'.nx = s.nx + 1 ∧ treeE t = 0 ∧ ∃ e', e'.src = t.bare ∧ s'.D = updD s.D s.nx (some e')))
theorem dput_any (E : Nat → Addr) (B : Nat) (L : Loc) (s : St) (t : Lt) (w : World) (ht : t.Ok w) (hti : t.In (fun b => ¬ diS L s b)) (h : DiAt True w L s) (hE : Env diGs B w E) (hEB : B ≤ L.B) (hM : Ml w) (hMl : 10 < L.B) (hLB : L.B ≤ w.heap.size) (hN : s.N ≤ 500000) (hnm : s.nm ≤ 500000) (hnx : s.nx ≤ 500000) :
    Calls Tryz.prog 8 #[.pointer (some ⟨L.d, 0, none⟩), nval t] w (PuX L s t w) := by
  by_cases h0 : treeE t = 0
  · by_cases hf : needS (listed t) ≤ nfree s.us
    · refine (dput_ok E B L s t w ht hti h hE hEB hM hMl hLB hN hnm hnx h0 hf).mono ?_
      rintro e w' ⟨rfl, hfr, e', s1, h1, -, h2, h3, h4, h5, h6, h7, h8, h9⟩
      have := filesR_le h0
      refine ⟨hfr.below hLB h.toDiM.baseS, (s.nx : Int), .nilIface, putS s1 e', rfl, h8, ?_, ?_, ?_, .inr ⟨rfl, rfl, ?_, h0, e', h1, ?_⟩⟩
      · show s1.N ≤ s.N + 200; omega
      · show s1.nm + 1 ≤ s.nm + 1; omega
      · show s1.nx + 1 ≤ s.nx + 1; omega
      · show s1.nx + 1 = s.nx + 1; omega
      · show updD s1.D s1.nx (some e') = _; rw [h2, h3]
    · refine (dput_full E B L s t w ht h.toDiM hE h0 (by omega)).mono ?_
      rintro e w' ⟨rfl, hb⟩
      exact ⟨hb.mono hLB, 0, _, s, rfl, h.low hb, by omega, by omega, by omega, .inl ⟨_, rfl⟩⟩
  · refine (dput_bad E B _ t w ht hE h0).mono ?_
    rintro e w' ⟨rfl, hb⟩
    exact ⟨hb.mono hLB, 0, _, s, rfl, h.low hb, by omega, by omega, by omega, .inl ⟨_, evc_ne h0⟩⟩
theorem large_numd (t : Lt) : ∃ r : Int, (0 ≤ r ∧ r ≤ 1) ∧ (r = 0 → t.sz ≤ 30) ∧ Hid (∀ W, t.Ok W → Calls Tryz.prog 28 #[nval t, .int .i64 30] W fun e w' => e = .returned (.int .i64 r) ∧ Below W.heap.size W w') := by
  by_cases h : SmallL 30 t
  · exact ⟨0, by omega, fun _ => h.small.many, hidd (fun W ht => (large_fn t 30 W ht (by omega)).mono fun _ _ ⟨k, hb⟩ => ⟨k.elim (fun k => k.1) (fun k => absurd h k.2), hb⟩)⟩
  · exact ⟨1, by omega, fun e => by omega, hidd (fun W ht => (large_fn t 30 W ht (by omega)).mono fun _ _ ⟨k, hb⟩ => ⟨k.elim (fun k => absurd k.2 h) (fun k => k.1), hb⟩)⟩
/-- What DirsShares has at hand. -/
structure DsK (E : Nat → Addr) (B : Nat) (w : World) (a b : Lt) (W : World) : Prop where
  below : Below w.heap.size w W
  oa : a.Ok W
  ob : b.Ok W
  env : Env diGs B W E
  ml : Ml W
  ba : Blk W w.heap.size (ncells a) 32
  bb : Blk W (w.heap.size + 1) (ncells b) 32
section
variable {E : Nat → Addr} {B : Nat} {w W W' : World} {a b : Lt}
theorem DsK.later (h : DsK E B w a b W) (hb : Below W.heap.size W W') : DsK E B w a b W' :=
  ⟨h.below.trans (hb.mono h.below.size), h.oa.ob hb, h.ob.ob hb, h.env.ob hb, h.ml.ob hb, h.ba.below hb h.ba.lt, h.bb.below hb h.bb.lt⟩
theorem DsK.drew (h : DsK E B w a b W) : DsK E B w a b W.drew := h.later ((Below.refl _ _).drew)
theorem DsK.c {ka da kb db : ByteArray} {ea eb : Bool} {va vb : Value} {ksa ksb : List (ByteArray × Lt)} (h : DsK E B w (.mk ka da ea va ksa) (.mk kb db eb vb ksb) W) :
    W.cell? ⟨w.heap.size, 0, none⟩ = some (.string ka) ∧ W.cell? ⟨w.heap.size, 1, none⟩ = some (.string da) ∧ W.cell? ⟨w.heap.size, 2, none⟩ = some (.bool ea) ∧ W.cell? ⟨w.heap.size, 3, none⟩ = some va ∧
    W.cell? ⟨w.heap.size + 1, 0, none⟩ = some (.string kb) ∧ W.cell? ⟨w.heap.size + 1, 1, none⟩ = some (.string db) ∧ W.cell? ⟨w.heap.size + 1, 2, none⟩ = some (.bool eb) ∧ W.cell? ⟨w.heap.size + 1, 3, none⟩ = some vb :=
  ⟨h.ba.cell (i := 0) rfl, h.ba.cell (i := 1) rfl, h.ba.cell (i := 2) rfl, h.ba.cell (i := 3) rfl, h.bb.cell (i := 0) rfl, h.bb.cell (i := 1) rfl, h.bb.cell (i := 2) rfl, h.bb.cell (i := 3) rfl⟩
end

end Go.Proofs.YtoemahhpheobkaaGreatDoor
