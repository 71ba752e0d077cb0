/- The contract of path.without. Condition: the tree is there, and well; the names lead to a node of it. -/
import Derived.Test.YtoaedkinlnkkhaaDoorPwW
namespace Go.Proofs.YtoaedkinlnkkhaaDoor
open Go.RowKit

theorem kcells_del (l : List (ByteArray × Lt)) (k j : Nat) (hj : j = k + 1) (h : k < l.length) : (kcells l).take (k * 5) ++ (kcells l).drop (j * 5) = kcells (l.take k ++ l.drop (k + 1)) := by
  subst hj
  rw [kcells_take _ _ (by omega), kcells_drop _ _ (by omega), ← kcells_app]
theorem bare_out {n da : ByteArray} {ex : Bool} {v : Value} {ks : List (ByteArray × Lt)} {r : List ByteArray} {k : Nat} (h : FndK ks n k true) :
    ∃ hk : k < ks.length, ks[k].1 = n ∧ withoutT (n :: r) (Tr.mk kDir da ex v ks : Lt).bare = .mk kDir da ex () (if r = [] then (ks.take k ++ ks.drop (k + 1)).map (fun x => (x.1, x.2.bare)) else (ks.take k).map (fun x => (x.1, x.2.bare)) ++ (n, withoutT r ks[k].2.bare) :: (ks.drop (k + 1)).map fun x => (x.1, x.2.bare)) := by
  obtain ⟨hk, hn⟩ := h.2.2.2.1 rfl
  refine ⟨hk, hn, ?_⟩
  rw [bare_mk]
  have hm := fnd_map (f := Tr.bare) h
  obtain ⟨e1, e2⟩ := fnd_low hm
  have hh : highK (Tr.mk kDir da ex () (ks.map fun x => (x.1, x.2.bare))).kids n = (ks[k].1, ks[k].2.bare) :: (ks.drop (k + 1)).map fun x => (x.1, x.2.bare) := by
    rw [kids_mk, e2, List.drop_eq_getElem_cons (by simpa using hk), List.map_drop]; simp
  rw [without_hit (r := r) hh]
  simp only [kids_mk, e1, List.map_take, List.map_append, hn]; rfl

/-- What path.without gives. -/
def WoP (t : Lt) (l : List ByteArray) (w : World) (e : Ending) (w' : World) : Prop :=
  ∃ (ky dy : ByteArray) (ey : Bool) (ya : Option Addr) (yc : Nat) (ksy : List (ByteArray × Lt)), e = .returned (.agg #[.string ky, .string dy, .bool ey, .slice ya ksy.length yc]) ∧ Hid ((Tr.mk ky dy ey (.slice ya ksy.length yc) ksy : Lt).Ok w') ∧
    Hid (∀ F : Nat → Prop, t.In F → (Tr.mk ky dy ey (.slice ya ksy.length yc) ksy : Lt).In (fun b => F b ∨ w.heap.size ≤ b)) ∧ Below w.heap.size w w' ∧ Hid ((Tr.mk ky dy ey (.slice ya ksy.length yc) ksy : Lt).bare = withoutT l t.bare)

/-- What stands while path.without goes. -/
structure WuK (w : World) (t : Lt) (v : Value) (l : List ByteArray) (W : World) : Prop where
  bt : Blk W w.heap.size (ncells t) 24
  bz : Blk W (w.heap.size + 1) [.string ⟨#[]⟩, .string ⟨#[]⟩, .bool false, .slice none 0 0] 24
  hl0 : Sl w v (tcells l) l.length 1
  ot0 : t.Ok w
  below : Below w.heap.size w W
section
variable {w : World} {t : Lt} {v : Value} {l : List ByteArray} {W W' : World}
theorem WuK.hl (h : WuK w t v l W) : Sl W v (tcells l) l.length 1 := h.hl0.ob h.below (Nat.le_refl _)
theorem WuK.ot (h : WuK w t v l W) : t.Ok W := h.ot0.ob h.below
theorem WuK.low (h : WuK w t v l W) (hb : Below (w.heap.size + 2) W W') : WuK w t v l W' :=
  ⟨h.bt.below hb (by omega), h.bz.below hb (by omega), h.hl0, h.ot0, h.below.trans (hb.mono (by omega))⟩
theorem WuK.later (h : WuK w t v l W) (hb : Below W.heap.size W W') : WuK w t v l W' := h.low (hb.mono (by have := h.bz.lt; omega))
theorem WuK.drew (h : WuK w t v l W) : WuK w t v l W.drew := h.later (Below.refl _ _).drew
theorem WuK.alloc (h : WuK w t v l W) (o : Obj) : WuK w t v l (W.alloc o) := h.later ((Below.refl _ _).alloc (Nat.le_refl _) o)
theorem WuK.c {kd da : ByteArray} {ex : Bool} {va : Value} {ks : List (ByteArray × Lt)} {n : ByteArray} {r : List ByteArray} {lb lo len lc : Nat} (h : WuK w (.mk kd da ex va ks) (.slice (some ⟨lb, lo, none⟩) len lc) (n :: r) W) :
    W.cell? ⟨w.heap.size, 0, none⟩ = some (.string kd) ∧ W.cell? ⟨w.heap.size, 1, none⟩ = some (.string da) ∧ W.cell? ⟨w.heap.size, 2, none⟩ = some (.bool ex) ∧ W.cell? ⟨w.heap.size, 3, none⟩ = some va ∧ W.cell? ⟨lb, lo, none⟩ = some (.string n) := by
  refine ⟨h.bt.cell (i := 0) rfl, h.bt.cell (i := 1) rfl, h.bt.cell (i := 2) rfl, h.bt.cell (i := 3) rfl, ?_⟩
  obtain ⟨a, c, he, hl, _, _, hc⟩ := h.hl
  simp only [Value.slice.injEq] at he
  obtain ⟨rfl, rfl, rfl⟩ := he
  rcases hc with hc | ⟨b, o, he, _, hc⟩
  · simp at hc
  · simp only [Option.some.injEq, Addr.mk.injEq] at he
    obtain ⟨rfl, rfl, _⟩ := he
    exact hc 0 (by simp [tcells])
theorem WuK.st {kd da : ByteArray} {ex : Bool} {va : Value} {ks : List (ByteArray × Lt)} (h : WuK w (.mk kd da ex va ks) v l W) (u : Value) :
    Blk (W.setCell ⟨w.heap.size, 3, none⟩ u) w.heap.size [.string kd, .string da, .bool ex, u] 24 ∧ Blk (W.setCell ⟨w.heap.size, 3, none⟩ u) (w.heap.size + 1) [.string ⟨#[]⟩, .string ⟨#[]⟩, .bool false, .slice none 0 0] 24 ∧ Fr (fun b => b = w.heap.size) W (W.setCell ⟨w.heap.size, 3, none⟩ u) ∧ Below w.heap.size w (W.setCell ⟨w.heap.size, 3, none⟩ u) := by
  have hF := (Fr.refl (fun b => b = w.heap.size) W).setCell (p := ⟨w.heap.size, 3, none⟩) (.inl rfl) u
  exact ⟨h.bt.set 3 u, h.bz.other (a := ⟨w.heap.size, 3, none⟩) (by simp) u, hF, h.below.trans (hF.below h.below.size (fun b e => by omega))⟩
end
theorem out_made {w w' : World} {kd da : ByteArray} {ex : Bool} {a : Option Addr} {v6 : Value} {cap k : Nat} {ks : List (ByteArray × Lt)} (ht : (Tr.mk kd da ex (.slice a ks.length cap) ks : Lt).Ok w) (hb : Below w.heap.size w w')
    {m : Nat} (hm : (ks.take k ++ ks.drop (k + 1)).length = m) (ho : Sl w' v6 (kcells (ks.take k ++ ks.drop (k + 1))) m 5) :
    (Tr.mk kd da ex v6 (ks.take k ++ ks.drop (k + 1)) : Lt).Ok w' := by
  refine Tr.Ok.mk' ?_ (fun y hy => ?_) (fun y hy => ?_)
  · simp only [Tr.v, Tr.kids]; rw [hm]; exact ho
  · simp only [Tr.kids] at hy
    rcases List.mem_append.1 hy with h | h
    · exact ht.names y (List.mem_of_mem_take h)
    · exact ht.names y (List.mem_of_mem_drop h)
  · simp only [Tr.kids] at hy
    rcases List.mem_append.1 hy with h | h
    · exact (ht.kid (List.mem_of_mem_take h)).ob hb
    · exact (ht.kid (List.mem_of_mem_drop h)).ob hb
theorem out_in {kd da : ByteArray} {ex : Bool} {va v6 : Value} {ks : List (ByteArray × Lt)} {F : Nat → Prop} {B k : Nat} (h1 : (Tr.mk kd da ex va ks : Lt).In F) (h3 : ∀ j, v6.ownBlock = some j → B ≤ j) :
    (Tr.mk kd da ex v6 (ks.take k ++ ks.drop (k + 1)) : Lt).In (fun b => F b ∨ B ≤ b) := by
  rw [Tr.In]
  refine ⟨fun _ b hb => .inr (h3 b hb), inS_iff.2 (fun z hz => ?_)⟩
  rcases List.mem_append.1 hz with h | h
  · exact in_mono (fun b hb => .inl hb) _ (h1.kid (x := z) (List.mem_of_mem_take h))
  · exact in_mono (fun b hb => .inl hb) _ (h1.kid (x := z) (List.mem_of_mem_drop h))

theorem two_below (w : World) (a b : Array Value) (T : TypeId) : Below w.heap.size w ((w.alloc (.cells a T)).alloc (.cells b T)) := ((Below.refl _ _).alloc (Nat.le_refl _) _).alloc (by simp) _
theorem out_start (t : Lt) (la : Option Addr) (lc : Nat) (l : List ByteArray) (w : World) (a : Option Addr) (cap : Nat) (hv : t.v = .slice a t.kids.length cap) (ht : t.Ok w) (hl : Sl w (.slice la l.length lc) (tcells l) l.length 1) :
    WuK w t (.slice la l.length lc) l ((w.alloc (.cells #[.string t.kind, .string t.data, .bool t.exec, .slice a t.kids.length cap] 24)).alloc (.cells #[.string ⟨#[]⟩, .string ⟨#[]⟩, .bool false, .slice none 0 0] 24)) := by
  refine ⟨?_, ?_, hl, ht, two_below w _ _ _⟩
  · unfold ncells; rw [hv]; exact (Blk.new w _ _).alloc _
  · have := Blk.new (w.alloc (.cells #[.string t.kind, .string t.data, .bool t.exec, .slice a t.kids.length cap] 24)) [.string ⟨#[]⟩, .string ⟨#[]⟩, .bool false, .slice none 0 0] 24
    simpa using this

set_option maxRecDepth 100000 in
set_option maxHeartbeats 8000000 in
theorem without_any : ∀ (l : List ByteArray) (t z : Lt) (v : Value) (w : World), l ≠ [] → atT t l = some z → t.Ok w → treeE t = 0 → Sl w v (tcells l) l.length 1 →
    Calls Tryd.prog 45 #[nval t, v] w (WoP t l w)
  | [], _, _, _, _, h, _, _, _, _ => absurd rfl h
  | n :: r, t, z, v, w, _, hat, ht, h0, hl => by
    obtain ⟨la, lc, rfl, -⟩ := id hl
    have hle := hl.le
    obtain ⟨a, cap, hv⟩ := ht.shape
    have hK := out_start t la lc (n :: r) w a cap hv ht hl
    have HT := hidd ht
    obtain ⟨kd, da, ex', va, ks⟩ := t
    simp only [Tr.kind, Tr.data, Tr.exec, Tr.v, Tr.kids] at hK hv
    subst hv
    -- it is there
    rw [atT] at hat
    simp only [Tr.kids] at hat
    have hfk : ∃ q, ks.find? (fun k => decide (k.1 = n)) = some q ∧ atT q.2 r = some z := by
      cases hf : ks.find? (fun k => decide (k.1 = n)) with
      | none => rw [hf] at hat; cases hat
      | some q => rw [hf] at hat; exact ⟨q, rfl, hat⟩
    obtain ⟨q, hfq, hqz⟩ := hfk
    obtain rfl : kd = kDir := own_kids (treeE_own h0).1 (k := q) (List.mem_of_find?_eq_some hfq)
    obtain ⟨lb, lo, rfl, hlb, hlc, hcell⟩ := hK.hl.at1 (i := 0) (by simp)
    have HKF := hidd (fun W (h : WuK w (.mk kDir da ex' (.slice a ks.length cap) ks) (.slice (some ⟨lb, lo, none⟩) (n :: r).length lc) (n :: r) W) => kid_find (.mk kDir da ex' (.slice a ks.length cap) ks) n W h.ot (by have := right_kids h0; omega) (right_rising h0))
    unfold nval at HKF ⊢
    simp only [Tr.kind, Tr.data, Tr.exec, Tr.v, Tr.kids] at HKF ⊢
    have HR0 := hidd h0
    have HFQ := hidd hfq
    have HQZ := hidd hqz
    have k0 := hK.c.2.2.2.2
    obtain ⟨x0, x1, x2, x3, -⟩ := hK.c
    have hKd := hK.drew
    have p0 : (0 : Int) < (r.length : Int) + 1 := by omega
    clear hlb hlc hcell ht h0 hl hat hfq hqz
    go_enter Tryd.func45, Tryd.ntmps45
    go_wp2_with fail
    first
      | (go_region_held3 (fun W => W.cell? ⟨w.heap.size, 0, none⟩ = some (.string kDir) ∧ W.cell? ⟨w.heap.size, 1, none⟩ = some (.string da) ∧ W.cell? ⟨w.heap.size, 2, none⟩ = some (.bool ex') ∧ W.cell? ⟨w.heap.size, 3, none⟩ = some (.slice a ks.length cap) ∧ W.cell? ⟨lb, lo, none⟩ = some (.string n))
          (first | exact WuK.c (by assumption))
          (first
            | (go_at_call 36; (with_reducible refine (HKF.out _ (by assumption)).mono ?_); rintro e w4 ⟨k, f, rfl, hf, hb4⟩; have hK4 := WuK.later (by assumption) hb4)))
      | fail
    obtain rfl : f = true := by
      cases f with
      | true => rfl
      | false =>
        have h1 := find_none (right_rising HR0.out) hf
        have h2 := HFQ.out
        simp only [Tr.kids] at h1
        rw [h1] at h2; cases h2
    obtain ⟨hk, hkn, HWT⟩ := bare_out (da := da) (ex := ex') (v := .slice a ks.length cap) (r := r) hf
    obtain ⟨g, off, rfl, hgl, -, -, -, -, -⟩ := HT.out.at5 rfl hk
    have hko := HT.out.get (i := k) hk
    simp only [Tr.kids] at hko
    have hk0 := kid_right HR0.out (x := ks[k]) (List.getElem_mem hk)
    have hqk : q = ks[k] := by
      obtain ⟨hk', hkn', hfk⟩ := find_some hf
      exact Option.some.inj (HFQ.out.symm.trans hfk)
    subst hqk
    have hqz := HQZ.out
    obtain ⟨x', hx'⟩ : ∃ x', ks[k] = x' := ⟨_, rfl⟩
    have HXK := hidd hx'
    rw [hx'] at hko hk0 HWT hkn hqz
    obtain ⟨nk, ⟨kk, dk, ek, vk, ksk⟩⟩ := x'
    obtain ⟨sa, sc, hkv⟩ := hko.shape
    simp only [Tr.v, Tr.kids] at hkv hkn
    subst hkv
    subst hkn
    have HWH := hidd HWT
    have HKO := hidd hko
    have HK0 := hidd hk0
    have HQ := hidd hqz
    have x3 := hK4.c.2.2.2.1
    have g3 := hK4.bt.frozen 3
    have HCL := hidd (clone_kids (.slice (some ⟨g, off, none⟩) ks.length cap) ks w4 hK4.ot.sl (oks_iff.2 (fun x hx => hK4.ot.kid hx)) (by have := right_kids HR0.out; simp only [Tr.kids] at this; omega))
    have HK4 := hidd hK4
    have hn5 : ks.length ≤ 1000 := by have := right_kids HR0.out; simp only [Tr.kids] at this; omega
    have HO1 : Hid (∀ u ∈ kcells ks, u.oneCell' = true) := hidd (one_kcells ks w (oks_iff.2 (fun x hx => HT.out.kid hx)))
    clear hK4 hKd HKF hf hb4 HFQ HQZ hx' hqz hk0 hko HWT k0 x0 x1 x2
    go_wp2_with fail
    refine HCL.out.mono ?_
    rintro e w7 ⟨a7, c7, rfl, how, hb7⟩
    obtain ⟨g7, o7, rfl⟩ : ∃ g7 o7, a7 = some ⟨g7, o7, none⟩ := by
      rcases how.2 with ⟨he, h0⟩ | ⟨g', o', c', cur, he, _⟩
      · omega
      · simp only [Value.slice.injEq] at he; exact ⟨_, _, he.1⟩
    have hK7 := HK4.out.later hb7
    have x7 := hK7.c.2.2.2.1
    have g7f := hK7.bt.frozen 3
    obtain ⟨sB, sZ, sF, sW⟩ := hK7.st (.slice (some ⟨g7, o7, none⟩) ks.length c7)
    have hgw : w4.heap.size ≤ g7 := (how.blk g7 rfl).1
    have hBw : w.heap.size + 1 < w4.heap.size := HK4.out.bz.lt
    have hO7 := how.fr sF (fun j hj e => by have := (how.blk j hj).1; omega)
    have HL0 := hidd HK4.out.hl0
    clear how hK7 HCL x3 g3 HK4 hb7
    go_upto_region 3 with fail
    clear x7 g7f
    generalize w7.setCell ⟨w.heap.size, 3, none⟩ (.slice (some ⟨g7, o7, none⟩) ks.length c7) = w8 at *
    have x3 := sB.cell (i := 3) rfl
    by_cases hr : r = []
    · subst hr
      have HDR := delete_row (w.heap.size + 2) ks.length k (k + 1) g7 o7 c7 (hidd rfl) (kcells ks) w8
      obtain ⟨hrw, hnc, hcm, -⟩ := hO7.rw
      have HDR2 := hidd (HDR hrw (kcells_len ks) (by omega) hk (by omega) (by omega) hnc hcm HO1.out hn5 (by have := sZ.lt; omega))
      rw [show ((k + 1 : Nat) : Int) = (k : Int) + 1 by omega] at HDR2
      clear HDR hrw hO7
      have q1 : IntKind.i64.wrap ((k : Int) + 1) = (k : Int) + 1 := by rw [IntKind.wrap_i64]; omega
      go_wp2_with fail
      refine HDR2.out.mono ?_
      rintro e w9 ⟨rfl, hO9, hb9⟩
      have sB9 := sB.below hb9 (by omega)
      have sZ9 := sZ.below hb9 (by omega)
      have hW9 := sW.trans (hb9.mono (by omega))
      have b3 := sB9.cell (i := 3) rfl
      have b3f := sB9.frozen 3
      have sBs := sB9.set 3 (.slice (some ⟨g7, o7, none⟩) (ks.length - 1) c7)
      have sZs := sZ9.other (a := ⟨w.heap.size, 3, none⟩) (by simp) (.slice (some ⟨g7, o7, none⟩) (ks.length - 1) c7)
      have hOs := hO9.set (a := ⟨w.heap.size, 3, none⟩) (by simp) (.slice (some ⟨g7, o7, none⟩) (ks.length - 1) c7)
      have hWs := hW9.setCell (p := ⟨w.heap.size, 3, none⟩) (Nat.le_refl _) (.slice (some ⟨g7, o7, none⟩) (ks.length - 1) c7)
      clear x3 HDR2 sB sZ sB9 sZ9 hW9 hO9 hb9 sF sW
      go_upto_region 5 with fail
      clear b3 b3f
      generalize w9.setCell ⟨w.heap.size, 3, none⟩ (.slice (some ⟨g7, o7, none⟩) (ks.length - 1) c7) = wA at *
      have x0 := sBs.cell (i := 0) rfl
      have x1 := sBs.cell (i := 1) rfl
      have x2 := sBs.cell (i := 2) rfl
      have x3 := sBs.cell (i := 3) rfl
      have f0 := sZs.frozen 0
      have f1 := sZs.frozen 1
      have f2 := sZs.frozen 2
      have f3 := sZs.frozen 3
      have y0 := sZs.cell (i := 0) rfl
      have y1 := sZs.cell (i := 1) rfl
      have y2 := sZs.cell (i := 2) rfl
      have y3 := sZs.cell (i := 3) rfl
      have s4 := sZs.four (x0 := .string kDir) (x1 := .string da) (x2 := .bool ex') (x3 := .slice (some ⟨g7, o7, none⟩) (ks.length - 1) c7)
      have r0 := s4.cell (i := 0) rfl
      have r1 := s4.cell (i := 1) rfl
      have r2 := s4.cell (i := 2) rfl
      have r3 := s4.cell (i := 3) rfl
      have hFR := (Fr.refl (fun b => b = w.heap.size + 1) wA).four (p := w.heap.size + 1) (.inl rfl) (.string kDir) (.string da) (.bool ex') (.slice (some ⟨g7, o7, none⟩) (ks.length - 1) c7)
      have hBF := hWs.trans (hFR.below hWs.size (fun b e => by omega))
      have HOF := hidd (hOs.fr hFR (fun j hj e => by have := (hOs.blk j hj).1; omega)).sl
      have hgg : w.heap.size + 2 ≤ g7 := by omega
      clear sBs sZs s4 hWs hFR hOs
      go_wp2_with fail
      have hln : (ks.take k ++ ks.drop (k + 1)).length = ks.length - 1 := by simp; omega
      refine bodyPost_ret (v := .agg #[.string kDir, .string da, .bool ex', .slice (some ⟨g7, o7, none⟩) (ks.length - 1) c7]) ?_ rfl ?_
      · rw [results_cell1 rfl]
        go_simp
      · have hof := HOF.out
        rw [kcells_del _ _ _ rfl hk] at hof
        refine ⟨kDir, da, ex', some ⟨g7, o7, none⟩, c7, ks.take k ++ ks.drop (k + 1), by rw [hln], hidd (by rw [hln]; exact out_made HT.out hBF hln hof), hidd (fun F h1 => out_in h1 (fun j hj => by simp [Value.ownBlock] at hj; omega)), hBF, hidd ?_⟩
        rw [HWH.out, if_pos trivial, bare_mk]
    · have hrl : 0 < r.length := List.length_pos_iff.2 hr
      obtain ⟨b', o', he, hbl, d0, d1, d2, d3, d4⟩ := sl_at5 hO7.sl hk
      simp only [Option.some.injEq, Addr.mk.injEq] at he
      obtain ⟨rfl, rfl, -⟩ := he
      rw [HXK.out] at d0 d1 d2 d3 d4
      simp only [Tr.kind, Tr.data, Tr.exec, Tr.v] at d1 d2 d3 d4
      have hdk : ks.take k ++ (nk, (.mk kk dk ek (.slice sa ksk.length sc) ksk : Lt)) :: ks.drop (k + 1) = ks := by
        rw [← HXK.out, List.getElem_cons_drop, List.take_append_drop]
      have HX : Hid (∀ W, Below w8.heap.size w8.drew W → W.cell? ⟨w.heap.size, 3, none⟩ = some (.slice (some ⟨g7, o7, none⟩) ks.length c7) ∧ W.cell? ⟨g7, o7 + k * 5 + 1, none⟩ = some (.string kk) ∧ W.cell? ⟨g7, o7 + k * 5 + 2, none⟩ = some (.string dk) ∧ W.cell? ⟨g7, o7 + k * 5 + 3, none⟩ = some (.bool ek) ∧ W.cell? ⟨g7, o7 + k * 5 + 4, none⟩ = some (.slice sa ksk.length sc) ∧ ∀ j, W.frozen? ⟨g7, j, none⟩ = false) := hidd (fun W hb =>
        ⟨(sB.drew.below hb sB.lt).cell (i := 3) rfl, (hb.cell (p := ⟨g7, _, none⟩) hbl).trans d1, (hb.cell (p := ⟨g7, _, none⟩) hbl).trans d2, (hb.cell (p := ⟨g7, _, none⟩) hbl).trans d3, (hb.cell (p := ⟨g7, _, none⟩) hbl).trans d4, fun j => (hO7.drew.ob hb).frozen j⟩)
      have hbw8 : Below w.heap.size w w8.drew := sW.drew
      have HIH := hidd (without_any r (.mk kk dk ek (.slice sa ksk.length sc) ksk) z _ w8.drew hr HQ.out (HKO.out.ob hbw8) HK0.out (sl_tail (HL0.out.ob hbw8 (Nat.le_refl _))))
      unfold nval at HIH
      simp only [Tr.kind, Tr.data, Tr.exec, Tr.v] at HIH
      generalize hA2 : (if lc = 1 then some (⟨lb, lo, none⟩ : Addr) else some ⟨lb, lo + 1, none⟩) = A2 at HIH
      have p1 : (0 : Int) ≤ (k : Int) := by omega
      have p2 : (k : Int) < (ks.length : Int) := by omega
      have p3 : (1 : Int) ≤ ((r.length + 1 : Nat) : Int) := by omega
      have p4 : (1 : Int) ≤ (r.length : Int) + 1 := by omega
      have hrl2 : ¬ r.length = 0 := by omega
      have hrl3 : (((r.length : Int) + 1) == 1) = false := by simp; omega
      have HO7 := hidd hO7
      have HSB := hidd sB
      have HSZ := hidd sZ
      clear sF hr hO7 sB sZ
      go_wp2_with fail
      go_region_law (go_simp; go_at_call 45; (with_reducible refine HIH.out.mono ?_); rintro e w5 ⟨ky, dy, ey, ya, yc, ksy, rfl, hy5, hi5, hb5, hm5⟩; obtain ⟨c3, e1, e2, e3, e4, e5⟩ := HX.out w5 hb5; have z1 := e5 (o7 + k * 5 + 1); have z2 := e5 (o7 + k * 5 + 2); have z3 := e5 (o7 + k * 5 + 3); have z4 := e5 (o7 + k * 5 + 4))
      all_goals
        have hO7' : Ow (fun b => w4.heap.size ≤ b) w5 48 5 (.slice (some ⟨g7, o7, none⟩) ks.length c7) ks.length (kcells (ks.take k ++ (nk, (.mk kk dk ek (.slice sa ksk.length sc) ksk : Lt)) :: ks.drop (k + 1))) := by rw [hdk]; exact HO7.out.drew.ob hb5
        obtain ⟨hO9, hF9⟩ := put_kid (k := k) ky dy ey (.slice ya ksy.length yc) ksy hO7' (by simp; omega)
        have sB5 := HSB.out.drew.below hb5 HSB.out.lt
        have sZ5 := HSZ.out.drew.below hb5 HSZ.out.lt
        have hW5 := sW.drew.trans (hb5.mono sW.size)
        have sB9 := sB5.fr hF9 (by omega)
        have sZ9 := sZ5.fr hF9 (by omega)
        have hW9 := hW5.trans (hF9.below hW5.size (fun b e => by omega))
        have hyi := hi5.out _ (ok_in _ HKO.out)
        have hg78 : g7 < w8.heap.size := hbl
        have hw8 := sW.size
        have hY9 := ok_fr hF9 _ hy5.out (in_mono (fun b hb e => by
          rcases hb with h | h
          · omega
          · have h' : w8.heap.size ≤ b := h; omega) _ hyi)
        have hI9 : Hid (∀ F : Nat → Prop, (Tr.mk kk dk ek (.slice sa ksk.length sc) ksk : Lt).In F → (Tr.mk ky dy ey (.slice ya ksy.length yc) ksy : Lt).In (fun b => F b ∨ w.heap.size ≤ b)) := hidd (fun F h1 => in_mono (fun b hb => by
          rcases hb with h | h
          · exact .inl h
          · exact .inr (by have h' : w8.heap.size ≤ b := h; omega)) _ (hi5.out F h1))
        have hyi9 : (Tr.mk ky dy ey (.slice ya ksy.length yc) ksy : Lt).In (fun b => ¬ b = w.heap.size + 1) := in_mono (fun b hb e => by
          rcases hb with h | h
          · omega
          · have h' : w8.heap.size ≤ b := h; omega) _ hyi
        unfold put4 at sB9 sZ9 hY9 hO9 hW9
        clear c3 e1 e2 e3 e4 e5 z1 z2 z3 z4 x3 d0 d1 d2 d3 d4 HX hO7' hF9 sB5 sZ5 hW5 hyi hy5 hi5 hb5 HSB HSZ HO7 HIH hdk sW
        generalize ((((w5.setCell ⟨g7, o7 + k * 5 + 1, none⟩ (.string ky)).setCell ⟨g7, o7 + k * 5 + 1 + 1, none⟩ (.string dy)).setCell ⟨g7, o7 + k * 5 + 1 + 2, none⟩ (.bool ey)).setCell ⟨g7, o7 + k * 5 + 1 + 3, none⟩ (.slice ya ksy.length yc)) = w9 at *
        have x0 := sB9.cell (i := 0) rfl
        have x1 := sB9.cell (i := 1) rfl
        have x2 := sB9.cell (i := 2) rfl
        have x3 := sB9.cell (i := 3) rfl
        have f0 := sZ9.frozen 0
        have f1 := sZ9.frozen 1
        have f2 := sZ9.frozen 2
        have f3 := sZ9.frozen 3
        have y0 := sZ9.cell (i := 0) rfl
        have y1 := sZ9.cell (i := 1) rfl
        have y2 := sZ9.cell (i := 2) rfl
        have y3 := sZ9.cell (i := 3) rfl
        have s4 := sZ9.four (x0 := .string kDir) (x1 := .string da) (x2 := .bool ex') (x3 := .slice (some ⟨g7, o7, none⟩) ks.length c7)
        have r0 := s4.cell (i := 0) rfl
        have r1 := s4.cell (i := 1) rfl
        have r2 := s4.cell (i := 2) rfl
        have r3 := s4.cell (i := 3) rfl
        have hFR := (Fr.refl (fun b => b = w.heap.size + 1) w9).four (p := w.heap.size + 1) (.inl rfl) (.string kDir) (.string da) (.bool ex') (.slice (some ⟨g7, o7, none⟩) ks.length c7)
        have hBF := hW9.trans (hFR.below hW9.size (fun b e => by omega))
        have HYF := hidd (ok_fr hFR _ hY9 hyi9)
        have HOF := hidd (hO9.fr hFR (fun j hj e => by have := (hO9.blk j hj).1; omega)).sl
        clear sB9 sZ9 s4 hW9 hFR hY9 hO9
        go_wp2_with fail
        refine bodyPost_ret (v := .agg #[.string kDir, .string da, .bool ex', .slice (some ⟨g7, o7, none⟩) ks.length c7]) ?_ rfl ?_
        · rw [results_cell1 rfl]
          go_simp
        · have hnk : ks[k].1 = nk := by rw [HXK.out]
          have hln : (ks.take k ++ (nk, (Tr.mk ky dy ey (.slice ya ksy.length yc) ksy : Lt)) :: ks.drop (k + 1)).length = ks.length := by simp; omega
          have hset := with_set HT.out HYF.out hBF hk (by rw [hnk]; exact HOF.out)
          rw [hnk] at hset
          refine ⟨kDir, da, ex', some ⟨g7, o7, none⟩, c7, ks.take k ++ (nk, (Tr.mk ky dy ey (.slice ya ksy.length yc) ksy : Lt)) :: ks.drop (k + 1), by rw [hln], hidd (by rw [hln]; exact hset), hidd (fun F h1 => set_in h1 (hI9.out F (by have := h1.kid (x := ks[k]) (List.getElem_mem hk); rw [HXK.out] at this; exact this)) (fun j hj => by simp [Value.ownBlock] at hj; omega)), hBF, hidd ?_⟩
          rw [HWH.out, if_neg (fun h => by rw [h] at hrl; simp at hrl), bare_mk, List.map_append, List.map_cons, hm5.out]
end Go.Proofs.YtoaedkinlnkkhaaDoor
