/- The contract of path.with. Condition: the trees are there, the one that is turned is well. -/
import Derived.Test.YtoaedkinlnkkhaaDoorPwT
import Derived.Test.YtoaedkinlnkkhaaDoorPwI
namespace Go.Proofs.YtoaedkinlnkkhaaDoor
open Go.RowKit

/-- What path.with gives. -/
def WithP (t x : Lt) (l : List ByteArray) (w : World) (e : Ending) (w' : World) : Prop :=
  ∃ (y : Lt) (b : Bool), e = .returned (.tuple #[nval y, .bool b]) ∧ y.Ok w' ∧ (∀ F : Nat → Prop, t.In F → x.In F → y.In (fun b => F b ∨ w.heap.size ≤ b)) ∧ Below w.heap.size w w' ∧ (match withT x.bare l t.bare with | some Y => b = true ∧ y.bare = Y | none => b = false)

theorem WithP.parts {t x : Lt} {l : List ByteArray} {w : World} {e : Ending} {w' : World} (h : WithP t x l w e w') : ∃ (ky dy : ByteArray) (ey : Bool) (ya : Option Addr) (yc : Nat) (ksy : List (ByteArray × Lt)) (b : Bool),
    e = .returned (.tuple #[.agg #[.string ky, .string dy, .bool ey, .slice ya ksy.length yc], .bool b]) ∧ Hid ((Tr.mk ky dy ey (.slice ya ksy.length yc) ksy : Lt).Ok w') ∧ Hid (∀ F : Nat → Prop, t.In F → x.In F → (Tr.mk ky dy ey (.slice ya ksy.length yc) ksy : Lt).In (fun b => F b ∨ w.heap.size ≤ b)) ∧ Below w.heap.size w w' ∧
    Hid (match withT x.bare l t.bare with | some Y => b = true ∧ (Tr.mk ky dy ey (.slice ya ksy.length yc) ksy : Lt).bare = Y | none => b = false) := by
  obtain ⟨y, b, rfl, hy, hi, hb, hm⟩ := h
  obtain ⟨ya, yc, hyv⟩ := hy.shape
  obtain ⟨ky, dy, ey, vy, ksy⟩ := y
  simp only [Tr.v, Tr.kids] at hyv
  subst hyv
  exact ⟨ky, dy, ey, ya, yc, ksy, b, rfl, hy, hi, hb, hm⟩

/-- What stands while path.with goes. -/
structure WtK (w : World) (t x : Lt) (v : Value) (l : List ByteArray) (W : World) : Prop where
  bt : Blk W w.heap.size (ncells t) 24
  bx : Blk W (w.heap.size + 1) (ncells x) 24
  bz : Blk W (w.heap.size + 2) [.string ⟨#[]⟩, .string ⟨#[]⟩, .bool false, .slice none 0 0] 24
  hl0 : Sl w v (tcells l) l.length 1
  ot0 : t.Ok w
  ox0 : x.Ok w
  below : Below w.heap.size w W
section
variable {w : World} {t x : Lt} {v : Value} {l : List ByteArray} {W W' : World}
theorem WtK.hl (h : WtK w t x v l W) : Sl W v (tcells l) l.length 1 := h.hl0.ob h.below (Nat.le_refl _)
theorem WtK.ot (h : WtK w t x v l W) : t.Ok W := h.ot0.ob h.below
theorem WtK.ox (h : WtK w t x v l W) : x.Ok W := h.ox0.ob h.below
theorem WtK.low (h : WtK w t x v l W) (hb : Below (w.heap.size + 3) W W') : WtK w t x v l W' :=
  ⟨h.bt.below hb (by omega), h.bx.below hb (by omega), h.bz.below hb (by omega), h.hl0, h.ot0, h.ox0, h.below.trans (hb.mono (by omega))⟩
theorem WtK.later (h : WtK w t x v l W) (hb : Below W.heap.size W W') : WtK w t x v l W' := h.low (hb.mono (by have := h.bz.lt; omega))
theorem WtK.drew (h : WtK w t x v l W) : WtK w t x v l W.drew := h.later (Below.refl _ _).drew
theorem WtK.drewN (h : WtK w t x v l W) (n : Nat) : WtK w t x v l (W.drewN n) := h.later (Below.drewN _ _ _)
theorem WtK.four (h : WtK w t x v l W) {p : Nat} (hp : w.heap.size + 3 ≤ p) (x0 x1 x2 x3 : Value) : WtK w t x v l ((((W.setCell ⟨p, 0, none⟩ x0).setCell ⟨p, 1, none⟩ x1).setCell ⟨p, 2, none⟩ x2).setCell ⟨p, 3, none⟩ x3) :=
  h.low (((Fr.refl (fun b => b = p) W).four (p := p) (.inl rfl) x0 x1 x2 x3).below (by have := h.bz.lt; omega) (fun b e => by omega))
theorem WtK.c {kd da : ByteArray} {ex : Bool} {va : Value} {ks : List (ByteArray × Lt)} {n : ByteArray} {r : List ByteArray} {lb lo len lc : Nat} (h : WtK w (.mk kd da ex va ks) x (.slice (some ⟨lb, lo, none⟩) len lc) (n :: r) W) :
    W.cell? ⟨w.heap.size, 0, none⟩ = some (.string kd) ∧ W.cell? ⟨w.heap.size, 1, none⟩ = some (.string da) ∧ W.cell? ⟨w.heap.size, 2, none⟩ = some (.bool ex) ∧ W.cell? ⟨w.heap.size, 3, none⟩ = some va ∧ W.cell? ⟨lb, lo, none⟩ = some (.string n) := by
  refine ⟨h.bt.cell (i := 0) rfl, h.bt.cell (i := 1) rfl, h.bt.cell (i := 2) rfl, h.bt.cell (i := 3) rfl, ?_⟩
  obtain ⟨a, c, he, hl, _, _, hc⟩ := h.hl
  simp only [Value.slice.injEq] at he
  obtain ⟨rfl, rfl, rfl⟩ := he
  rcases hc with hc | ⟨b, o, he, _, hc⟩
  · simp at hc
  · simp only [Option.some.injEq, Addr.mk.injEq] at he
    obtain ⟨rfl, rfl, _⟩ := he
    exact hc 0 (by simp [tcells])
theorem WtK.d {kd da kx dx : ByteArray} {ex ex2 : Bool} {va vx : Value} {ks ksx : List (ByteArray × Lt)} {n : ByteArray} {r : List ByteArray} {lb lo len lc : Nat} (h : WtK w (.mk kd da ex va ks) (.mk kx dx ex2 vx ksx) (.slice (some ⟨lb, lo, none⟩) len lc) (n :: r) W) :
    W.cell? ⟨w.heap.size, 3, none⟩ = some va ∧ W.cell? ⟨lb, lo, none⟩ = some (.string n) ∧ W.cell? ⟨w.heap.size + 1, 0, none⟩ = some (.string kx) ∧ W.cell? ⟨w.heap.size + 1, 1, none⟩ = some (.string dx) ∧ W.cell? ⟨w.heap.size + 1, 2, none⟩ = some (.bool ex2) ∧ W.cell? ⟨w.heap.size + 1, 3, none⟩ = some vx :=
  ⟨h.c.2.2.2.1, h.c.2.2.2.2, h.bx.cell (i := 0) rfl, h.bx.cell (i := 1) rfl, h.bx.cell (i := 2) rfl, h.bx.cell (i := 3) rfl⟩
theorem WtK.st {kd da : ByteArray} {ex : Bool} {va : Value} {ks : List (ByteArray × Lt)} (h : WtK w (.mk kd da ex va ks) x v l W) (u : Value) :
    Blk (W.setCell ⟨w.heap.size, 3, none⟩ u) w.heap.size [.string kd, .string da, .bool ex, u] 24 ∧ Blk (W.setCell ⟨w.heap.size, 3, none⟩ u) (w.heap.size + 2) [.string ⟨#[]⟩, .string ⟨#[]⟩, .bool false, .slice none 0 0] 24 ∧ Fr (fun b => b = w.heap.size) W (W.setCell ⟨w.heap.size, 3, none⟩ u) ∧ Below w.heap.size w (W.setCell ⟨w.heap.size, 3, none⟩ u) := by
  have hF := (Fr.refl (fun b => b = w.heap.size) W).setCell (p := ⟨w.heap.size, 3, none⟩) (.inl rfl) u
  exact ⟨h.bt.set 3 u, h.bz.other (a := ⟨w.heap.size, 3, none⟩) (by simp) u, hF, h.below.trans (hF.below h.below.size (fun b e => by omega))⟩
theorem WtK.alloc (h : WtK w t x v l W) (o : Obj) : WtK w t x v l (W.alloc o) := h.later ((Below.refl _ _).alloc (Nat.le_refl _) o)
end


theorem fnd_map {α β : Type} {f : α → β} {ks : List (ByteArray × α)} {n : ByteArray} {i : Nat} {b : Bool} (h : FndK ks n i b) : FndK (ks.map fun x => (x.1, f x.2)) n i b := by
  obtain ⟨h1, h2, h3, h4⟩ := h
  refine ⟨by simpa using h1, fun j hj hji => ?_, fun j hj hji => ?_, ?_⟩
  · have := h2 j (by simpa using hj) hji; simpa using this
  · have := h3 j (by simpa using hj) hji; simpa using this
  · rw [h4]; simp
theorem bare_mk (k d : ByteArray) (e : Bool) (v : Value) (ks : List (ByteArray × Lt)) : (Tr.mk k d e v ks : Lt).bare = .mk k d e () (ks.map fun x => (x.1, x.2.bare)) := by
  unfold Tr.bare; rw [Tr.map, Tr.maps_eq]
theorem bare_miss {X : Nd} {n da : ByteArray} {ex : Bool} {v : Value} {ks : List (ByteArray × Lt)} {r : List ByteArray} {k : Nat} (h : FndK ks n k false) :
    withT X (n :: r) (Tr.mk kDir da ex v ks : Lt).bare = if r = [] then some (.mk kDir da ex () ((ks.take k).map (fun x => (x.1, x.2.bare)) ++ (n, X) :: (ks.drop k).map fun x => (x.1, x.2.bare))) else none := by
  rw [bare_mk]
  have hm := fnd_map (f := Tr.bare) h
  obtain ⟨e1, e2⟩ := fnd_low hm
  rw [with_miss rfl (fun j c hj => ?_)]
  · simp only [kids_mk, e1, e2, List.map_take, List.map_drop]; rfl
  · simp only [kids_mk, e2] at hj
    intro e
    have hlt : k < (ks.map fun x => (x.1, x.2.bare)).length := by
      rcases Nat.lt_or_ge k (ks.map fun x => (x.1, x.2.bare)).length with h | h
      · exact h
      · rw [List.drop_of_length_le h] at hj; cases hj
    rw [List.drop_eq_getElem_cons hlt] at hj
    have := hm.2.2.2.2 ⟨hlt, by rw [(List.cons.inj hj).1]; exact e⟩
    cases this
theorem bare_hit {X : Nd} {n da : ByteArray} {ex : Bool} {v : Value} {ks : List (ByteArray × Lt)} {r : List ByteArray} {k : Nat} (h : FndK ks n k true) :
    ∃ hk : k < ks.length, ks[k].1 = n ∧ withT X (n :: r) (Tr.mk kDir da ex v ks : Lt).bare = (withT X r ks[k].2.bare).map fun y => .mk kDir da ex () ((ks.take k).map (fun x => (x.1, x.2.bare)) ++ (n, y) :: (ks.drop (k + 1)).map fun x => (x.1, x.2.bare)) := by
  obtain ⟨hk, hn⟩ := h.2.2.2.1 rfl
  refine ⟨hk, hn, ?_⟩
  rw [bare_mk]
  have hm := fnd_map (f := Tr.bare) h
  obtain ⟨e1, e2⟩ := fnd_low hm
  have hh : highK (Tr.mk kDir da ex () (ks.map fun x => (x.1, x.2.bare))).kids n = (ks[k].1, ks[k].2.bare) :: (ks.drop (k + 1)).map fun x => (x.1, x.2.bare) := by
    rw [kids_mk, e2, List.drop_eq_getElem_cons (by simpa using hk), List.map_drop]; simp
  rw [with_hit (x := X) (r := r) (by rfl) hh hn]
  simp only [kids_mk, e1, List.map_take]; rfl
theorem kcells_take (l : List (ByteArray × Lt)) (k : Nat) (h : k ≤ l.length) : (kcells l).take (k * 5) = kcells (l.take k) := by
  have e := List.take_append_drop k l
  conv => lhs; rw [← e]
  rw [kcells_app, List.take_append_of_le_length (by rw [kcells_len, List.length_take]; omega), List.take_of_length_le (by rw [kcells_len, List.length_take]; omega)]
theorem kcells_drop (l : List (ByteArray × Lt)) (k : Nat) (h : k ≤ l.length) : (kcells l).drop (k * 5) = kcells (l.drop k) := by
  have e := List.take_append_drop k l
  conv => lhs; rw [← e]
  have hl : (kcells (l.take k)).length = k * 5 := by rw [kcells_len, List.length_take]; omega
  rw [kcells_app, ← hl, List.drop_left]
theorem kcells_ins (l : List (ByteArray × Lt)) (k : Nat) (x : ByteArray × Lt) (h : k ≤ l.length) : (kcells l).take (k * 5) ++ kcells [x] ++ (kcells l).drop (k * 5) = kcells (l.take k ++ x :: l.drop k) := by
  rw [kcells_take _ _ h, kcells_drop _ _ h, ← kcells_app, ← kcells_app]; simp

theorem kDir_list : kDir.toList = [100, 105, 114] := by rw [Lib.toList_data]; rfl
theorem three_below (w : World) (a b c : Array Value) (T : TypeId) : Below w.heap.size w (((w.alloc (.cells a T)).alloc (.cells b T)).alloc (.cells c T)) := (((Below.refl _ _).alloc (Nat.le_refl _) _).alloc (by simp) _).alloc (by simp; omega) _

theorem with_start (t x : Lt) (la : Option Addr) (lc : Nat) (l : List ByteArray) (w : World) (a xa : Option Addr) (cap xc : Nat) (hv : t.v = .slice a t.kids.length cap) (hxv : x.v = .slice xa x.kids.length xc) (ht : t.Ok w) (hx : x.Ok w) (hl : Sl w (.slice la l.length lc) (tcells l) l.length 1) :
    WtK w t x (.slice la l.length lc) l (((w.alloc (.cells #[.string t.kind, .string t.data, .bool t.exec, .slice a t.kids.length cap] 24)).alloc (.cells #[.string x.kind, .string x.data, .bool x.exec, .slice xa x.kids.length xc] 24)).alloc (.cells #[.string ⟨#[]⟩, .string ⟨#[]⟩, .bool false, .slice none 0 0] 24)) := by
  have hB0 : Below w.heap.size w (((w.alloc (.cells #[.string t.kind, .string t.data, .bool t.exec, .slice a t.kids.length cap] 24)).alloc (.cells #[.string x.kind, .string x.data, .bool x.exec, .slice xa x.kids.length xc] 24)).alloc (.cells #[.string ⟨#[]⟩, .string ⟨#[]⟩, .bool false, .slice none 0 0] 24)) := (((Below.refl _ _).alloc (Nat.le_refl _) _).alloc (by simp) _).alloc (by simp; omega) _
  refine ⟨?_, ?_, ?_, hl, ht, hx, hB0⟩
  · unfold ncells; rw [hv]; exact ((Blk.new w _ _).alloc _).alloc _
  · unfold ncells; rw [hxv]
    have := (Blk.new (w.alloc (.cells #[.string t.kind, .string t.data, .bool t.exec, .slice a t.kids.length cap] 24)) [.string x.kind, .string x.data, .bool x.exec, .slice xa x.kids.length xc] 24).alloc (.cells #[.string ⟨#[]⟩, .string ⟨#[]⟩, .bool false, .slice none 0 0] 24)
    simpa using this
  · have := Blk.new ((w.alloc (.cells #[.string t.kind, .string t.data, .bool t.exec, .slice a t.kids.length cap] 24)).alloc (.cells #[.string x.kind, .string x.data, .bool x.exec, .slice xa x.kids.length xc] 24)) [.string ⟨#[]⟩, .string ⟨#[]⟩, .bool false, .slice none 0 0] 24
    simpa using this

set_option maxRecDepth 100000 in
set_option maxHeartbeats 8000000 in
theorem with_none (t x : Lt) (v : Value) (w : World) (ht : t.Ok w) (hx : x.Ok w) (hl : Sl w v (tcells []) 0 1) :
    Calls Tryd.prog 44 #[nval t, v, nval x] w (WithP t x [] w) := by
  obtain ⟨la, lc, rfl, -⟩ := id hl
  obtain ⟨a, cap, hv⟩ := ht.shape
  obtain ⟨xa, xc, hxv⟩ := hx.shape
  have hK := with_start t x la lc [] w a xa cap xc hv hxv ht hx hl
  have HX := hidd hx
  obtain ⟨kx, dx, ex, vx, ksx⟩ := x
  obtain ⟨kd, da, ex', va, ks⟩ := t
  simp only [Tr.kind, Tr.data, Tr.exec, Tr.v, Tr.kids] at hK hxv hv
  subst hxv
  subst hv
  have f0 := hK.bz.frozen 0
  have f1 := hK.bz.frozen 1
  have f2 := hK.bz.frozen 2
  have f3 := hK.bz.frozen 3
  have y0 := hK.bz.cell (i := 0) rfl
  have y1 := hK.bz.cell (i := 1) rfl
  have y2 := hK.bz.cell (i := 2) rfl
  have y3 := hK.bz.cell (i := 3) rfl
  have x0 := hK.bx.cell (i := 0) rfl
  have x1 := hK.bx.cell (i := 1) rfl
  have x2 := hK.bx.cell (i := 2) rfl
  have x3 := hK.bx.cell (i := 3) rfl
  unfold nval
  simp only [Tr.kind, Tr.data, Tr.exec, Tr.v] at x0 x1 x2 x3 ⊢
  clear hK ht hl hx
  go_enter Tryd.func44, Tryd.ntmps44
  go_wp2_with fail
  refine bodyPost_ret (v := .tuple #[.agg #[.string kx, .string dx, .bool ex, .slice xa ksx.length xc], .bool true]) ?_ rfl ?_
  · rw [results_cell_tmp rfl]
    go_simp
  · exact ⟨_, true, rfl, HX.out.ob (three_below w _ _ _ _), fun F h1 h2 => in_mono (fun b hb => .inl hb) _ h2, three_below w _ _ _ _, by rw [with_nil]; exact ⟨rfl, rfl⟩⟩

theorem sl_tail {w : World} {b off len cap : Nat} {x : ByteArray} {r : List ByteArray} (h : Sl w (.slice (some ⟨b, off, none⟩) len cap) (tcells (x :: r)) (x :: r).length 1) :
    Sl w (.slice (if cap = 1 then some (⟨b, off, none⟩ : Addr) else some ⟨b, off + 1, none⟩) r.length (cap - 1)) (tcells r) r.length 1 := by
  obtain ⟨a', cap', he, h1, h2, h2', h3⟩ := h
  simp only [Value.slice.injEq] at he
  obtain ⟨rfl, rfl, rfl⟩ := he
  simp only [List.length_cons] at h2
  refine ⟨_, _, rfl, by rw [tcells_len, Nat.mul_one], by omega, by omega, ?_⟩
  by_cases e : cap = 1
  · exact .inl (by omega)
  · rw [if_neg e]
    rcases h3 with h3 | ⟨b', off', e, hb, hc⟩
    · simp at h3
    · simp only [Option.some.injEq, Addr.mk.injEq] at e
      obtain ⟨rfl, rfl, -⟩ := e
      refine .inr ⟨b, off + 1, rfl, hb, fun j hj => ?_⟩
      have := hc (j + 1) (by simp [tcells] at hj ⊢; omega)
      rw [show off + 1 + j = off + (j + 1) by omega, this]
      rfl
theorem put_kid {F : Nat → Prop} {w5 : World} {ls rest : List (ByteArray × Lt)} {g off n c2 k : Nat} {nx : ByteArray} {y : Lt} (kx dx : ByteArray) (ex : Bool) (v : Value) (ks' : List (ByteArray × Lt)) {T : TypeId}
    (h5 : Ow F w5 T 5 (.slice (some ⟨g, off, none⟩) n c2) n (kcells (ls ++ (nx, y) :: rest))) (hll : ls.length = k) :
    Ow F (put4 w5 g (off + k * 5) kx dx ex v) T 5 (.slice (some ⟨g, off, none⟩) n c2) n (kcells (ls ++ (nx, (Tr.mk kx dx ex v ks' : Lt)) :: rest)) ∧ Fr (fun b => b = g) w5 (put4 w5 g (off + k * 5) kx dx ex v) := by
  have hF5 : Fr (fun b => b = g) w5 (put4 w5 g (off + k * 5) kx dx ex v) := ((((Fr.refl (fun b => b = g) w5).setCell (p := ⟨g, off + k * 5 + 1, none⟩) (.inl rfl) _).setCell (p := ⟨g, off + k * 5 + 1 + 1, none⟩) (.inl rfl) _).setCell (p := ⟨g, off + k * 5 + 1 + 2, none⟩) (.inl rfl) _).setCell (p := ⟨g, off + k * 5 + 1 + 3, none⟩) (.inl rfl) _
  refine ⟨?_, hF5⟩
  have hl5 : (kcells (ls ++ (nx, y) :: rest)).length = n * 5 := h5.1
  have hkn : k * 5 + 5 ≤ n * 5 := by rw [← hl5, kcells_len]; simp; omega
  have s1 := h5.put (j := k * 5 + 1) (by omega) (.string kx)
  have s2 := s1.put (j := k * 5 + 2) (by simp; omega) (.string dx)
  have s3 := s2.put (j := k * 5 + 3) (by simp; omega) (.bool ex)
  have s4 := s3.put (j := k * 5 + 4) (by simp; omega) v
  have e := kcells_put ls rest nx y kx dx ex v ks'
  rw [hll] at e
  rw [e] at s4
  exact s4
theorem with_set {w w' : World} {kd da : ByteArray} {ex : Bool} {a a6 : Option Addr} {cap c6 k : Nat} {ks : List (ByteArray × Lt)} {y : Lt} (ht : (Tr.mk kd da ex (.slice a ks.length cap) ks : Lt).Ok w) (hy : y.Ok w') (hb : Below w.heap.size w w') (hk : k < ks.length)
    (ho : Sl w' (.slice a6 ks.length c6) (kcells (ks.take k ++ (ks[k].1, y) :: ks.drop (k + 1))) ks.length 5) :
    (Tr.mk kd da ex (.slice a6 ks.length c6) (ks.take k ++ (ks[k].1, y) :: ks.drop (k + 1)) : Lt).Ok w' := by
  have hl : (ks.take k ++ (ks[k].1, y) :: ks.drop (k + 1)).length = ks.length := by simp; omega
  refine Tr.Ok.mk' ?_ (fun z hz => ?_) (fun z hz => ?_)
  · simp only [Tr.v, Tr.kids]; rw [hl]; exact ho
  · simp only [Tr.kids] at hz
    rcases List.mem_append.1 hz with h | h
    · exact ht.names z (List.mem_of_mem_take h)
    · rcases List.mem_cons.1 h with rfl | h
      · exact ht.names ks[k] (List.getElem_mem hk)
      · exact ht.names z (List.mem_of_mem_drop h)
  · simp only [Tr.kids] at hz
    rcases List.mem_append.1 hz with h | h
    · exact (ht.kid (List.mem_of_mem_take h)).ob hb
    · rcases List.mem_cons.1 h with rfl | h
      · exact hy
      · exact (ht.kid (List.mem_of_mem_drop h)).ob hb

theorem made_in {kd da : ByteArray} {ex : Bool} {va v6 : Value} {ks : List (ByteArray × Lt)} {n : ByteArray} {x : Lt} {F : Nat → Prop} {B k : Nat} (h1 : (Tr.mk kd da ex va ks : Lt).In F) (h2 : x.In F) (h3 : ∀ j, v6.ownBlock = some j → B ≤ j) :
    (Tr.mk kd da ex v6 (ks.take k ++ (n, x) :: ks.drop k) : Lt).In (fun b => F b ∨ B ≤ b) := by
  rw [Tr.In]
  refine ⟨fun _ b hb => .inr (h3 b hb), inS_iff.2 (fun z hz => ?_)⟩
  rcases List.mem_append.1 hz with h | h
  · exact in_mono (fun b hb => .inl hb) _ (h1.kid (x := z) (List.mem_of_mem_take h))
  · rcases List.mem_cons.1 h with rfl | h
    · exact in_mono (fun b hb => .inl hb) _ h2
    · exact in_mono (fun b hb => .inl hb) _ (h1.kid (x := z) (List.mem_of_mem_drop h))
theorem set_in {kd da : ByteArray} {ex : Bool} {va v6 : Value} {ks : List (ByteArray × Lt)} {n : ByteArray} {y : Lt} {F : Nat → Prop} {B k : Nat} (h1 : (Tr.mk kd da ex va ks : Lt).In F) (h2 : y.In (fun b => F b ∨ B ≤ b)) (h3 : ∀ j, v6.ownBlock = some j → B ≤ j) :
    (Tr.mk kd da ex v6 (ks.take k ++ (n, y) :: ks.drop (k + 1)) : Lt).In (fun b => F b ∨ B ≤ b) := by
  rw [Tr.In]
  refine ⟨fun _ b hb => .inr (h3 b hb), inS_iff.2 (fun z hz => ?_)⟩
  rcases List.mem_append.1 hz with h | h
  · exact in_mono (fun b hb => .inl hb) _ (h1.kid (x := z) (List.mem_of_mem_take h))
  · rcases List.mem_cons.1 h with rfl | h
    · exact h2
    · exact in_mono (fun b hb => .inl hb) _ (h1.kid (x := z) (List.mem_of_mem_drop h))

theorem with_made {w w' : World} {kd da : ByteArray} {ex : Bool} {a a6 : Option Addr} {cap c6 k : Nat} {ks : List (ByteArray × Lt)} {n : ByteArray} {x : Lt} (ht : (Tr.mk kd da ex (.slice a ks.length cap) ks : Lt).Ok w) (hx : x.Ok w) (hb : Below w.heap.size w w') (hk : k ≤ ks.length) (hn : n.size ≤ 140737488351232)
    (ho : Sl w' (.slice a6 (ks.length + 1) c6) ((kcells ks).take (k * 5) ++ kcells [(n, x)] ++ (kcells ks).drop (k * 5)) (ks.length + 1) 5) :
    (Tr.mk kd da ex (.slice a6 (ks.length + 1) c6) (ks.take k ++ (n, x) :: ks.drop k) : Lt).Ok w' := by
  rw [kcells_ins _ _ _ hk] at ho
  have hl : (ks.take k ++ (n, x) :: ks.drop k).length = ks.length + 1 := by simp; omega
  refine Tr.Ok.mk' ?_ (fun y hy => ?_) (fun y hy => ?_)
  · simp only [Tr.v, Tr.kids]; rw [hl]; exact ho
  · simp only [Tr.kids] at hy
    rcases List.mem_append.1 hy with h | h
    · exact ht.names y (List.mem_of_mem_take h)
    · rcases List.mem_cons.1 h with rfl | h
      · exact hn
      · exact ht.names y (List.mem_of_mem_drop h)
  · simp only [Tr.kids] at hy
    rcases List.mem_append.1 hy with h | h
    · exact (ht.kid (List.mem_of_mem_take h)).ob hb
    · rcases List.mem_cons.1 h with rfl | h
      · exact hx.ob hb
      · exact (ht.kid (List.mem_of_mem_drop h)).ob hb

set_option maxRecDepth 100000 in
set_option maxHeartbeats 8000000 in
theorem with_cons (n : ByteArray) (r : List ByteArray) (ih : ∀ (t x : Lt) (v : Value) (w : World), t.Ok w → x.Ok w → treeE t = 0 → Sl w v (tcells r) r.length 1 → (∀ m ∈ r, m.size ≤ 140737488351232) → Calls Tryd.prog 44 #[nval t, v, nval x] w (WithP t x r w))
    (t x : Lt) (v : Value) (w : World) (ht : t.Ok w) (hx : x.Ok w) (h0 : treeE t = 0) (hl : Sl w v (tcells (n :: r)) (n :: r).length 1) (hnz : ∀ m ∈ n :: r, m.size ≤ 140737488351232) :
    Calls Tryd.prog 44 #[nval t, v, nval x] w (WithP t x (n :: r) w) := by
  obtain ⟨la, lc, rfl, -⟩ := id hl
  have hle := hl.le
  obtain ⟨a, cap, hv⟩ := ht.shape
  obtain ⟨xa, xc, hxv⟩ := hx.shape
  have hK := with_start t x la lc (n :: r) w a xa cap xc hv hxv ht hx hl
  have HX := hidd hx
  have HT := hidd ht
  obtain ⟨kx, dx, ex, vx, ksx⟩ := x
  obtain ⟨kd, da, ex', va, ks⟩ := t
  simp only [Tr.kind, Tr.data, Tr.exec, Tr.v, Tr.kids] at hK hxv hv
  subst hxv
  subst hv
  unfold nval
  simp only [Tr.kind, Tr.data, Tr.exec, Tr.v]
  have x0 := hK.bt.cell (i := 0) rfl
  have x1 := hK.bt.cell (i := 1) rfl
  have x2 := hK.bt.cell (i := 2) rfl
  have x3 := hK.bt.cell (i := 3) rfl
  simp only [Tr.kind, Tr.data, Tr.exec, Tr.v] at x0 x1 x2 x3
  have HK := hidd hK
  have hlen : ((n :: r).length : Int) = (r.length : Int) + 1 := by simp
  clear hl
  by_cases hd : kd = kDir
  · subst hd
    have e1 : (kDir.toList == [100, 105, 114]) = true := by rw [kDir_list]; rfl
    obtain ⟨lb, lo, rfl, hlb, hlc, hcell⟩ := hK.hl.at1 (i := 0) (by simp)
    have HKF := hidd (fun W (h : WtK w (.mk kDir da ex' (.slice a ks.length cap) ks) (.mk kx dx ex (.slice xa ksx.length xc) ksx) (.slice (some ⟨lb, lo, none⟩) (n :: r).length lc) (n :: r) W) => kid_find (.mk kDir da ex' (.slice a ks.length cap) ks) n W h.ot (by have := right_kids h0; omega) (right_rising h0))
    unfold nval at HKF
    simp only [Tr.kind, Tr.data, Tr.exec, Tr.v, Tr.kids] at HKF
    have HR0 := hidd h0
    have k0 := hK.c.2.2.2.2
    have hKd := HK.out.drew
    clear hlb hcell ht hx h0
    go_enter Tryd.func44, Tryd.ntmps44
    go_wp2_with fail
    first
      | (go_region_held3 (fun W => W.cell? ⟨w.heap.size, 0, none⟩ = some (.string kDir) ∧ W.cell? ⟨w.heap.size, 1, none⟩ = some (.string da) ∧ W.cell? ⟨w.heap.size, 2, none⟩ = some (.bool ex') ∧ W.cell? ⟨w.heap.size, 3, none⟩ = some (.slice a ks.length cap) ∧ W.cell? ⟨lb, lo, none⟩ = some (.string n))
          (first | exact WtK.c (by assumption))
          (first
            | (go_at_call 36; (with_reducible refine (HKF.out _ (by assumption)).mono ?_); rintro e w4 ⟨k, f, rfl, hf, hb4⟩; have hK4 := WtK.later (by assumption) hb4)))
      | fail
    have HF := hidd hf
    have HK4 := hidd hK4
    obtain ⟨x0, x1, x2, x3, k0⟩ := hK4.c
    clear hKd hK hf hb4 HKF
    cases f
    · by_cases hr : r = []
      · subst hr
        have hlt : ¬ ((1 : Int) < (([n] : List ByteArray).length : Int)) := by simp
        have HCL := hidd (fun W (h : WtK w (.mk kDir da ex' (.slice a ks.length cap) ks) (.mk kx dx ex (.slice xa ksx.length xc) ksx) (.slice (some ⟨lb, lo, none⟩) [n].length lc) [n] W) => clone_kids (.slice a ks.length cap) ks W h.ot.sl (oks_iff.2 (fun x hx => h.ot.kid hx)) (by have := right_kids HR0.out; simp only [Tr.kids] at this; omega))
        have hKd := HK4.out.drew
        have hz4 : w.heap.size + 2 < w4.heap.size := HK4.out.bz.lt
        have hks : ks.length ≤ 1000 := by have := right_kids HR0.out; simp only [Tr.kids] at this; omega
        have hkl : k ≤ ks.length := HF.out.1
        have HN1 : Hid (∀ u ∈ [Value.string n, .string kx, .string dx, .bool ex, .slice xa ksx.length xc], u.oneCell' = true) := hidd (by intro u hu; simp only [List.mem_cons, List.not_mem_nil, or_false] at hu; rcases hu with rfl | rfl | rfl | rfl | rfl <;> rfl)
        have HO1 : Hid (∀ u ∈ kcells ks, u.oneCell' = true) := hidd (one_kcells ks w (oks_iff.2 (fun x hx => HT.out.kid hx)))
        go_wp2_with fail
        have x3d : w4.drew.cell? ⟨w.heap.size, 3, none⟩ = some (.slice a ks.length cap) := x3
        have hd0 := hKd.d.2.1
        obtain ⟨hd1, hd2, hd3, hd4⟩ := hKd.d.2.2
        have x3a : ∀ o, (w4.alloc o).cell? ⟨w.heap.size, 3, none⟩ = some (.slice a ks.length cap) := fun o => (hK4.alloc o).c.2.2.2.1
        have x3b : ∀ o, (w4.alloc o).drew.cell? ⟨w.heap.size, 3, none⟩ = some (.slice a ks.length cap) := fun o => (hK4.alloc o).c.2.2.2.1
        go_region_law (first
            | (go_simp; go_at_call 32; (with_reducible refine (HCL.out _ hKd).mono ?_); rintro e w5 ⟨a5, c5, rfl, how, hb5⟩; have hK5 := hKd.later hb5; obtain ⟨d3, dk, d4, d5, d6, d7⟩ := hK5.d; have how3 := how.mono (F' := fun g => w.heap.size + 3 ≤ g) (fun g hg => by have hg' : w4.heap.size ≤ g := hg; omega))
            | (go_simp; go_at_call 32; (with_reducible refine (HCL.out _ (hK4.alloc _).drew).mono ?_); rintro e w5 ⟨a5, c5, rfl, how, hb5⟩; have hK5 := (hK4.alloc _).drew.later hb5; have how3 := how.mono (F' := fun g => w.heap.size + 3 ≤ g) (fun g hg => by simp at hg; omega); have hv5 := (Blk.new w4 [.string n, .string kx, .string dx, .bool ex, .slice xa ksx.length xc] 48).drew.below hb5 (by simp))
            | (go_simp; go_at_call 60; (with_reducible refine (insert_row (w.heap.size + 3) ks.length k a5 c5 w5.heap.size (kcells ks) [.string n, .string kx, .string dx, .bool ex, .slice xa ksx.length xc] _ (how3.alloc _) (Blk.new w5 _ _) rfl (fun j hj => by have := (how3.blk j hj).2; omega) HN1.out HO1.out hkl hks (by have := hK5.bz.lt; simp; omega)).mono ?_); rintro e w6 ⟨a6, c6, rfl, hin, hb6⟩; have hK6 := (hK5.alloc _).low hb6; have g3 := hK6.c.2.2.2.1; have g4 := hK6.bt.frozen 3)
            | (go_simp; go_at_call 60; (with_reducible refine (insert_row (w.heap.size + 3) ks.length k a5 c5 w4.heap.size (kcells ks) [.string n, .string kx, .string dx, .bool ex, .slice xa ksx.length xc] _ how3 hv5 rfl (fun j hj => by have := (how.blk j hj).1; simp at this; omega) HN1.out HO1.out hkl hks (by have := hK5.bz.lt; omega)).mono ?_); rintro e w6 ⟨a6, c6, rfl, hin, hb6⟩; have hK6 := hK5.low hb6; have g3 := hK6.c.2.2.2.1; have g4 := hK6.bt.frozen 3))
        all_goals
          obtain ⟨sB, sZ, sF, sW⟩ := hK6.st (.slice a6 (ks.length + 1) c6)
          have hO := hin.fr sF (fun j hj e => by have := (hin.blk j hj).1; omega)
          have HO := hidd hO
          clear hin hO hK6 hK5 how how3 hb5 hb6 hKd hK4 HN1 HO1 HCL x3 x3a x3b x3d hd0 hd1 hd2 hd3 hd4 x0 x1 x2 k0 sF g3 g4
          generalize w6.setCell ⟨w.heap.size, 3, none⟩ (.slice a6 (ks.length + 1) c6) = w7 at *
          have x0 := sB.cell (i := 0) rfl
          have x1 := sB.cell (i := 1) rfl
          have x2 := sB.cell (i := 2) rfl
          have x3 := sB.cell (i := 3) rfl
          have f0 := sZ.frozen 0
          have f1 := sZ.frozen 1
          have f2 := sZ.frozen 2
          have f3 := sZ.frozen 3
          have y0 := sZ.cell (i := 0) rfl
          have y1 := sZ.cell (i := 1) rfl
          have y2 := sZ.cell (i := 2) rfl
          have y3 := sZ.cell (i := 3) rfl
          have s4 := sZ.four (x0 := .string kDir) (x1 := .string da) (x2 := .bool ex') (x3 := .slice a6 (ks.length + 1) c6)
          have r0 := s4.cell (i := 0) rfl
          have r1 := s4.cell (i := 1) rfl
          have r2 := s4.cell (i := 2) rfl
          have r3 := s4.cell (i := 3) rfl
          have hFR := (Fr.refl (fun b => b = w.heap.size + 2) w7).four (p := w.heap.size + 2) (.inl rfl) (.string kDir) (.string da) (.bool ex') (.slice a6 (ks.length + 1) c6)
          have hBF := sW.trans (hFR.below sW.size (fun b e => by omega))
          have HOF := hidd (HO.out.fr hFR (fun j hj e => by have := (HO.out.blk j hj).1; omega)).sl
          have HOB : Hid (∀ j, (Value.slice a6 (ks.length + 1) c6).ownBlock = some j → w.heap.size + 3 ≤ j) := hidd (fun j hj => (HO.out.blk j hj).1)
          clear sB sZ s4 sW hFR HO
          go_wp2_with fail
          refine bodyPost_ret (v := .tuple #[.agg #[.string kDir, .string da, .bool ex', .slice a6 (ks.length + 1) c6], .bool true]) ?_ rfl ?_
          · rw [results_cell_tmp rfl]
            go_simp
          · refine ⟨_, true, rfl, with_made HT.out HX.out hBF hkl (hnz n (List.mem_cons_self ..)) HOF.out, fun F h1 h2 => made_in h1 h2 (fun j hj => by have := HOB.out j hj; omega), hBF, ?_⟩
            rw [bare_miss HF.out, if_pos rfl]
            exact ⟨rfl, by rw [bare_mk]; simp⟩
      · have hrl : 0 < r.length := List.length_pos_iff.2 hr
        have HW : Hid (withT (Tr.bare (.mk kx dx ex (.slice xa ksx.length xc) ksx)) (n :: r) (Tr.bare (.mk kDir da ex' (.slice a ks.length cap) ks)) = none) := hidd (by rw [bare_miss HF.out, if_neg hr])
        have hlt : (1 : Int) < ((n :: r).length : Int) := by simp; omega
        have f0 := hK4.bz.frozen 0
        have f1 := hK4.bz.frozen 1
        have f2 := hK4.bz.frozen 2
        have f3 := hK4.bz.frozen 3
        have y0 := hK4.bz.cell (i := 0) rfl
        have y1 := hK4.bz.cell (i := 1) rfl
        have y2 := hK4.bz.cell (i := 2) rfl
        have y3 := hK4.bz.cell (i := 3) rfl
        have s4 := hK4.bz.four (x0 := .string kDir) (x1 := .string da) (x2 := .bool ex') (x3 := .slice a ks.length cap)
        have r0 := s4.cell (i := 0) rfl
        have r1 := s4.cell (i := 1) rfl
        have r2 := s4.cell (i := 2) rfl
        have r3 := s4.cell (i := 3) rfl
        have hBF := hK4.below.trans (((Fr.refl (fun b => b = w.heap.size + 2) _).four (p := w.heap.size + 2) (.inl rfl) (.string kDir) (.string da) (.bool ex') (.slice a ks.length cap)).below hK4.below.size (fun b e => by omega))
        clear hK4 s4 hr
        go_wp2_with fail
        refine bodyPost_ret (v := .tuple #[.agg #[.string kDir, .string da, .bool ex', .slice a ks.length cap], .bool false]) ?_ rfl ?_
        · rw [results_cell_tmp rfl]
          go_simp
        · exact ⟨_, false, rfl, HT.out.ob hBF, fun F h1 h2 => in_mono (fun b hb => .inl hb) _ h1, hBF, by rw [HW.out]⟩
    · obtain ⟨hk, hkn, HWT⟩ := bare_hit (X := Tr.bare (.mk kx dx ex (.slice xa ksx.length xc) ksx)) (da := da) (ex := ex') (v := .slice a ks.length cap) (r := r) HF.out
      obtain ⟨g, off, rfl, hgl, a0, a1, a2, a3, a4⟩ := HT.out.at5 rfl hk
      simp only [Tr.kids] at a0 a1 a2 a3 a4
      have hko := HT.out.get (i := k) hk
      simp only [Tr.kids] at hko
      have hk0 := kid_right HR0.out (x := ks[k]) (List.getElem_mem hk)
      obtain ⟨x', hx'⟩ : ∃ x', ks[k] = x' := ⟨_, rfl⟩
      have HXK := hidd hx'
      rw [hx'] at a0 a1 a2 a3 a4 hko hk0 HWT hkn
      obtain ⟨nk, ⟨kk, dk, ek, vk, ksk⟩⟩ := x'
      obtain ⟨sa, sc, hkv⟩ := hko.shape
      simp only [Tr.kind, Tr.data, Tr.exec, Tr.v, Tr.kids] at a1 a2 a3 a4 hkv hkn
      subst hkv
      subst hkn
      have HWH := hidd HWT
      have HIH := hidd (fun W (h : WtK w (.mk kDir da ex' (.slice (some ⟨g, off, none⟩) ks.length cap) ks) (.mk kx dx ex (.slice xa ksx.length xc) ksx) (.slice (some ⟨lb, lo, none⟩) (nk :: r).length lc) (nk :: r) W) => ih (.mk kk dk ek (.slice sa ksk.length sc) ksk) (.mk kx dx ex (.slice xa ksx.length xc) ksx) _ W (hko.ob h.below) h.ox hk0 (sl_tail h.hl) (fun m hm => hnz m (List.mem_cons_of_mem _ hm)))
      have HKC : Hid (∀ W, WtK w (.mk kDir da ex' (.slice (some ⟨g, off, none⟩) ks.length cap) ks) (.mk kx dx ex (.slice xa ksx.length xc) ksx) (.slice (some ⟨lb, lo, none⟩) (nk :: r).length lc) (nk :: r) W →
          (W.cell? ⟨w.heap.size, 3, none⟩ = some (.slice (some ⟨g, off, none⟩) ks.length cap) ∧ W.cell? ⟨w.heap.size + 1, 0, none⟩ = some (.string kx) ∧ W.cell? ⟨w.heap.size + 1, 1, none⟩ = some (.string dx) ∧ W.cell? ⟨w.heap.size + 1, 2, none⟩ = some (.bool ex) ∧ W.cell? ⟨w.heap.size + 1, 3, none⟩ = some (.slice xa ksx.length xc)) ∧
          W.cell? ⟨g, off + k * 5 + 1, none⟩ = some (.string kk) ∧ W.cell? ⟨g, off + k * 5 + 2, none⟩ = some (.string dk) ∧ W.cell? ⟨g, off + k * 5 + 3, none⟩ = some (.bool ek) ∧ W.cell? ⟨g, off + k * 5 + 4, none⟩ = some (.slice sa ksk.length sc)) := hidd (fun W h =>
        ⟨⟨h.d.1, h.d.2.2⟩, (h.below.cell (p := ⟨g, _, none⟩) hgl).trans a1, (h.below.cell (p := ⟨g, _, none⟩) hgl).trans a2, (h.below.cell (p := ⟨g, _, none⟩) hgl).trans a3, (h.below.cell (p := ⟨g, _, none⟩) hgl).trans a4⟩)
      have HKO := hidd hko
      unfold nval at HIH
      simp only [Tr.kind, Tr.data, Tr.exec, Tr.v] at HIH
      generalize hA2 : (if lc = 1 then some (⟨lb, lo, none⟩ : Addr) else some ⟨lb, lo + 1, none⟩) = A2 at HIH
      have p1 : (0 : Int) ≤ (k : Int) := by omega
      have p2 : (k : Int) < (ks.length : Int) := by omega
      have p3 : (1 : Int) ≤ ((r.length + 1 : Nat) : Int) := by omega
      have p4 : (1 : Int) ≤ (r.length : Int) + 1 := by omega
      have hKd := HK4.out.drew
      have hz4 : w.heap.size + 2 < w4.heap.size := HK4.out.bz.lt
      clear x0 x1 x2 x3 k0 hK4 a0 a1 a2 a3 a4 HWT hko ih hx'
      go_wp2_with fail
      (go_region_held3 (fun W => (W.cell? ⟨w.heap.size, 3, none⟩ = some (.slice (some ⟨g, off, none⟩) ks.length cap) ∧ W.cell? ⟨w.heap.size + 1, 0, none⟩ = some (.string kx) ∧ W.cell? ⟨w.heap.size + 1, 1, none⟩ = some (.string dx) ∧ W.cell? ⟨w.heap.size + 1, 2, none⟩ = some (.bool ex) ∧ W.cell? ⟨w.heap.size + 1, 3, none⟩ = some (.slice xa ksx.length xc)) ∧
          W.cell? ⟨g, off + k * 5 + 1, none⟩ = some (.string kk) ∧ W.cell? ⟨g, off + k * 5 + 2, none⟩ = some (.string dk) ∧ W.cell? ⟨g, off + k * 5 + 3, none⟩ = some (.bool ek) ∧ W.cell? ⟨g, off + k * 5 + 4, none⟩ = some (.slice sa ksk.length sc))
          (first | exact HKC.out _ (by assumption) | exact HKC.out _ (WtK.alloc (by assumption) _) | exact HKC.out _ ((HK4.out.alloc _).drew) | exact HKC.out _ (WtK.four (by assumption) (by omega) _ _ _ _))
          (first
            | (go_at_call 44; (with_reducible refine (HIH.out _ hKd).mono ?_); intro e w5 hyy; obtain ⟨ky, dy, ey, ya, yc, ksy, b5, he5, hy5, hi5, hb5, hm5⟩ := hyy.parts; subst he5; have hK5 := hKd.later hb5)
            | (go_at_call 44; (with_reducible refine (HIH.out _ (HK4.out.alloc _).drew).mono ?_); intro e w5 hyy; obtain ⟨ky, dy, ey, ya, yc, ksy, b5, he5, hy5, hi5, hb5, hm5⟩ := hyy.parts; subst he5; have hK5 := (HK4.out.alloc _).drew.later hb5; have hn5 := (Blk.new w4 [.string ⟨#[]⟩, .string ⟨#[]⟩, .bool false, .slice none 0 0] 24).drew.below hb5 (by simp); have z0 := hn5.cell (i := 0) rfl; have z1 := hn5.cell (i := 1) rfl; have z2 := hn5.cell (i := 2) rfl; have z3 := hn5.cell (i := 3) rfl; have f0 := hn5.frozen 0; have f1 := hn5.frozen 1; have f2 := hn5.frozen 2; have f3 := hn5.frozen 3)))
      all_goals
        have hkin : (Tr.mk kk dk ek (.slice sa ksk.length sc) ksk : Lt).In (fun b => b < w.heap.size) := ok_in _ HKO.out
        have hyi := hi5.out _ hkin (ok_in _ HX.out)
      rotate_left
      · have hfr := (Fr.refl (fun b => b = w4.heap.size) w5).four (p := w4.heap.size) (.inl rfl) (.string ky) (.string dy) (.bool ey) (.slice ya ksy.length yc)
        have hK6 := hK5.four (p := w4.heap.size) (by omega) (.string ky) (.string dy) (.bool ey) (.slice ya ksy.length yc)
        have hN6 := hn5.four (x0 := .string ky) (x1 := .string dy) (x2 := .bool ey) (x3 := .slice ya ksy.length yc)
        have hY6 := ok_fr hfr _ hy5.out (in_mono (fun b hb e => by simp at hb; omega) _ hyi)
        have hI6 : Hid (∀ F : Nat → Prop, (Tr.mk kk dk ek (.slice sa ksk.length sc) ksk : Lt).In F → (Tr.mk kx dx ex (.slice xa ksx.length xc) ksx : Lt).In F → (Tr.mk ky dy ey (.slice ya ksy.length yc) ksy : Lt).In (fun b => F b ∨ w.heap.size ≤ b)) := hidd (fun F h1 h2 => in_mono (fun b hb => by
          rcases hb with h | h
          · exact .inl h
          · exact .inr (by simp at h; omega)) _ (hi5.out F h1 h2))
        have hyi6 : (Tr.mk ky dy ey (.slice ya ksy.length yc) ksy : Lt).In (fun b => b < w.heap.size ∨ w.heap.size + 3 ≤ b) := in_mono (fun b hb => by simp at hb; omega) _ hyi
        clear z0 z1 z2 z3 f0 f1 f2 f3 hn5 hK5 hfr hyi hkin hi5 hy5 hb5
        generalize ((((w5.setCell ⟨w4.heap.size, 0, none⟩ (.string ky)).setCell ⟨w4.heap.size, 1, none⟩ (.string dy)).setCell ⟨w4.heap.size, 2, none⟩ (.bool ey)).setCell ⟨w4.heap.size, 3, none⟩ (.slice ya ksy.length yc)) = w6 at *
        have hz6 : w.heap.size + 3 ≤ w4.heap.size := by omega
        clear hz4
        generalize w4.heap.size = N at *
        have x3 := hK6.d.1
        have g3 := hK6.bt.frozen 3
        have HCL := hidd (clone_kids (.slice (some ⟨g, off, none⟩) ks.length cap) ks w6 hK6.ot.sl (oks_iff.2 (fun x hx => hK6.ot.kid hx)) (by have := right_kids HR0.out; simp only [Tr.kids] at this; omega))
        have HK6 := hidd hK6
        have HN6 := hidd hN6
        have HY6 := hidd hY6
        have HYI := hidd hyi6
        clear hK6 hN6 hY6 hyi6 HIH HKC hKd hA2 HK4
        go_wp2_with fail
        refine HCL.out.mono ?_
        rintro e w7 ⟨a7, c7, rfl, how, hb7⟩
        obtain ⟨g7, o7, rfl⟩ : ∃ g7 o7, a7 = some ⟨g7, o7, none⟩ := by
          rcases how.2 with ⟨he, h0⟩ | ⟨g', o', c', cur, he, _⟩
          · omega
          · simp only [Value.slice.injEq] at he; exact ⟨_, _, he.1⟩
        have hK7 := HK6.out.later hb7
        have x7 := hK7.c.2.2.2.1
        have g7f := hK7.bt.frozen 3
        obtain ⟨sB, sZ, sF, sW⟩ := hK7.st (.slice (some ⟨g7, o7, none⟩) ks.length c7)
        have hgw : w6.heap.size ≤ g7 := (how.blk g7 rfl).1
        have hNw : N < w6.heap.size := HN6.out.lt
        have hBw : w.heap.size + 2 < w6.heap.size := HK6.out.bz.lt
        have hN7 := (HN6.out.below hb7 HN6.out.lt).fr sF (by omega)
        have hY7 := ok_fr sF _ (HY6.out.ob hb7) (in_mono (fun b hb e => by omega) _ HYI.out)
        have hO7 := how.fr sF (fun j hj e => by have := (how.blk j hj).1; omega)
        have hin7 := ok_in _ HY6.out
        clear how hK7 HCL x3 g3
        go_upto_region 13 with fail
        clear x7 g7f
        generalize w7.setCell ⟨w.heap.size, 3, none⟩ (.slice (some ⟨g7, o7, none⟩) ks.length c7) = w8 at *
        have x3 := sB.cell (i := 3) rfl
        have n0 := hN7.cell (i := 0) rfl
        have n1 := hN7.cell (i := 1) rfl
        have n2 := hN7.cell (i := 2) rfl
        have n3 := hN7.cell (i := 3) rfl
        obtain ⟨b', o', he, hbl, d0, d1, d2, d3, d4⟩ := sl_at5 hO7.sl hk
        simp only [Option.some.injEq, Addr.mk.injEq] at he
        obtain ⟨rfl, rfl, -⟩ := he
        have z1 := hO7.frozen (o7 + k * 5 + 1)
        have z2 := hO7.frozen (o7 + k * 5 + 2)
        have z3 := hO7.frozen (o7 + k * 5 + 3)
        have z4 := hO7.frozen (o7 + k * 5 + 4)
        have hdk : ks.take k ++ (nk, (.mk kk dk ek (.slice sa ksk.length sc) ksk : Lt)) :: ks.drop (k + 1) = ks := by
          rw [← HXK.out, List.getElem_cons_drop, List.take_append_drop]
        have hO7' : Ow (fun b => w6.heap.size ≤ b) w8 48 5 (.slice (some ⟨g7, o7, none⟩) ks.length c7) ks.length (kcells (ks.take k ++ (nk, (.mk kk dk ek (.slice sa ksk.length sc) ksk : Lt)) :: ks.drop (k + 1))) := by rw [hdk]; exact hO7
        obtain ⟨hO9, hF9⟩ := put_kid (k := k) ky dy ey (.slice ya ksy.length yc) ksy hO7' (by simp; omega)
        have HO9 := hidd hO9
        have HF9 := hidd hF9
        have HO7 := hidd hO7
        have HSB := hidd sB
        have HSZ := hidd sZ
        have HY7 := hidd hY7
        have HIN7 := hidd hin7
        clear hO7 hO7' hO9 hF9 hdk sB sZ hY7 hin7 hN7 hb7
        go_upto_region 14 with fail
        have hgB : w.heap.size + 3 ≤ g7 := by omega
        have sB9 := HSB.out.fr HF9.out (by omega)
        have sZ9 := HSZ.out.fr HF9.out (by omega)
        have hY9 := ok_fr HF9.out _ HY7.out (in_mono (fun b hb e => by omega) _ HIN7.out)
        have hO9 := HO9.out
        have hW9 := sW.trans (HF9.out.below sW.size (fun b e => by omega))
        unfold put4 at sB9 sZ9 hY9 hO9 hW9
        clear x3 n0 n1 n2 n3 d0 d1 d2 d3 d4 z1 z2 z3 z4 HSB HSZ HF9 HO9 HO7 HY7 sW
        generalize ((((w8.setCell ⟨g7, o7 + k * 5 + 1, none⟩ (.string ky)).setCell ⟨g7, o7 + k * 5 + 1 + 1, none⟩ (.string dy)).setCell ⟨g7, o7 + k * 5 + 1 + 2, none⟩ (.bool ey)).setCell ⟨g7, o7 + k * 5 + 1 + 3, none⟩ (.slice ya ksy.length yc)) = w9 at *
        have x0 := sB9.cell (i := 0) rfl
        have x1 := sB9.cell (i := 1) rfl
        have x2 := sB9.cell (i := 2) rfl
        have x3 := sB9.cell (i := 3) rfl
        have f0 := sZ9.frozen 0
        have f1 := sZ9.frozen 1
        have f2 := sZ9.frozen 2
        have f3 := sZ9.frozen 3
        have y0 := sZ9.cell (i := 0) rfl
        have y1 := sZ9.cell (i := 1) rfl
        have y2 := sZ9.cell (i := 2) rfl
        have y3 := sZ9.cell (i := 3) rfl
        have s4 := sZ9.four (x0 := .string kDir) (x1 := .string da) (x2 := .bool ex') (x3 := .slice (some ⟨g7, o7, none⟩) ks.length c7)
        have r0 := s4.cell (i := 0) rfl
        have r1 := s4.cell (i := 1) rfl
        have r2 := s4.cell (i := 2) rfl
        have r3 := s4.cell (i := 3) rfl
        have hFR := (Fr.refl (fun b => b = w.heap.size + 2) w9).four (p := w.heap.size + 2) (.inl rfl) (.string kDir) (.string da) (.bool ex') (.slice (some ⟨g7, o7, none⟩) ks.length c7)
        have hBF := hW9.trans (hFR.below hW9.size (fun b e => by omega))
        have HYF := hidd (ok_fr hFR _ hY9 (in_mono (fun b hb e => by omega) _ HYI.out))
        have HOF := hidd (hO9.fr hFR (fun j hj e => by have := (hO9.blk j hj).1; omega)).sl
        clear sB9 sZ9 s4 hW9 hFR hY9 hO9
        go_wp2_with fail
        refine bodyPost_ret (v := .tuple #[.agg #[.string kDir, .string da, .bool ex', .slice (some ⟨g7, o7, none⟩) ks.length c7], .bool b5]) ?_ rfl ?_
        · rw [results_cell_tmp rfl]
          go_simp
        · have hnk : ks[k].1 = nk := by rw [HXK.out]
          have hset := with_set HT.out HYF.out hBF hk (by rw [hnk]; exact HOF.out)
          rw [hnk] at hset
          refine ⟨_, b5, rfl, hset, fun F h1 h2 => set_in h1 (hI6.out F (by have := h1.kid (x := ks[k]) (List.getElem_mem hk); rw [HXK.out] at this; exact this) h2) (fun j hj => by simp [Value.ownBlock] at hj; omega), hBF, ?_⟩
          rw [HWH.out]
          have hm := hm5.out
          cases hw : withT (Tr.mk kx dx ex (.slice xa ksx.length xc) ksx : Lt).bare r (Tr.mk kk dk ek (.slice sa ksk.length sc) ksk : Lt).bare with
          | none => rw [hw] at hm; exact hm
          | some Y =>
            rw [hw] at hm
            refine ⟨hm.1, ?_⟩
            rw [bare_mk, List.map_append, List.map_cons, hm.2]
      · have hK6 := hK5.alloc (.cells #[.string ky, .string dy, .bool ey, .slice ya ksy.length yc] 24)
        have hN6 := Blk.new w5 [.string ky, .string dy, .bool ey, .slice ya ksy.length yc] 24
        have hY6 := hy5.out.alloc (.cells #[.string ky, .string dy, .bool ey, .slice ya ksy.length yc] 24)
        have hI6 : Hid (∀ F : Nat → Prop, (Tr.mk kk dk ek (.slice sa ksk.length sc) ksk : Lt).In F → (Tr.mk kx dx ex (.slice xa ksx.length xc) ksx : Lt).In F → (Tr.mk ky dy ey (.slice ya ksy.length yc) ksy : Lt).In (fun b => F b ∨ w.heap.size ≤ b)) := hidd (fun F h1 h2 => in_mono (fun b hb => by
          rcases hb with h | h
          · exact .inl h
          · exact .inr (by have h' : w4.heap.size ≤ b := h; omega)) _ (hi5.out F h1 h2))
        have hyi6 : (Tr.mk ky dy ey (.slice ya ksy.length yc) ksy : Lt).In (fun b => b < w.heap.size ∨ w.heap.size + 3 ≤ b) := in_mono (fun b hb => by
          rcases hb with h | h
          · exact .inl h
          · exact .inr (by have h' : w4.heap.size ≤ b := h; omega)) _ hyi
        have hz6 : w.heap.size + 3 ≤ w5.heap.size := hK5.bz.lt
        clear hK5 hyi hkin hi5 hy5 hb5 hz4
        generalize w5.alloc (.cells #[.string ky, .string dy, .bool ey, .slice ya ksy.length yc] 24) = w6 at *
        generalize w5.heap.size = N at *
        have x3 := hK6.d.1
        have g3 := hK6.bt.frozen 3
        have HCL := hidd (clone_kids (.slice (some ⟨g, off, none⟩) ks.length cap) ks w6 hK6.ot.sl (oks_iff.2 (fun x hx => hK6.ot.kid hx)) (by have := right_kids HR0.out; simp only [Tr.kids] at this; omega))
        have HK6 := hidd hK6
        have HN6 := hidd hN6
        have HY6 := hidd hY6
        have HYI := hidd hyi6
        clear hK6 hN6 hY6 hyi6 HIH HKC hKd hA2 HK4
        go_wp2_with fail
        refine HCL.out.mono ?_
        rintro e w7 ⟨a7, c7, rfl, how, hb7⟩
        obtain ⟨g7, o7, rfl⟩ : ∃ g7 o7, a7 = some ⟨g7, o7, none⟩ := by
          rcases how.2 with ⟨he, h0⟩ | ⟨g', o', c', cur, he, _⟩
          · omega
          · simp only [Value.slice.injEq] at he; exact ⟨_, _, he.1⟩
        have hK7 := HK6.out.later hb7
        have x7 := hK7.c.2.2.2.1
        have g7f := hK7.bt.frozen 3
        obtain ⟨sB, sZ, sF, sW⟩ := hK7.st (.slice (some ⟨g7, o7, none⟩) ks.length c7)
        have hgw : w6.heap.size ≤ g7 := (how.blk g7 rfl).1
        have hNw : N < w6.heap.size := HN6.out.lt
        have hBw : w.heap.size + 2 < w6.heap.size := HK6.out.bz.lt
        have hN7 := (HN6.out.below hb7 HN6.out.lt).fr sF (by omega)
        have hY7 := ok_fr sF _ (HY6.out.ob hb7) (in_mono (fun b hb e => by omega) _ HYI.out)
        have hO7 := how.fr sF (fun j hj e => by have := (how.blk j hj).1; omega)
        have hin7 := ok_in _ HY6.out
        clear how hK7 HCL x3 g3
        go_upto_region 13 with fail
        clear x7 g7f
        generalize w7.setCell ⟨w.heap.size, 3, none⟩ (.slice (some ⟨g7, o7, none⟩) ks.length c7) = w8 at *
        have x3 := sB.cell (i := 3) rfl
        have n0 := hN7.cell (i := 0) rfl
        have n1 := hN7.cell (i := 1) rfl
        have n2 := hN7.cell (i := 2) rfl
        have n3 := hN7.cell (i := 3) rfl
        obtain ⟨b', o', he, hbl, d0, d1, d2, d3, d4⟩ := sl_at5 hO7.sl hk
        simp only [Option.some.injEq, Addr.mk.injEq] at he
        obtain ⟨rfl, rfl, -⟩ := he
        have z1 := hO7.frozen (o7 + k * 5 + 1)
        have z2 := hO7.frozen (o7 + k * 5 + 2)
        have z3 := hO7.frozen (o7 + k * 5 + 3)
        have z4 := hO7.frozen (o7 + k * 5 + 4)
        have hdk : ks.take k ++ (nk, (.mk kk dk ek (.slice sa ksk.length sc) ksk : Lt)) :: ks.drop (k + 1) = ks := by
          rw [← HXK.out, List.getElem_cons_drop, List.take_append_drop]
        have hO7' : Ow (fun b => w6.heap.size ≤ b) w8 48 5 (.slice (some ⟨g7, o7, none⟩) ks.length c7) ks.length (kcells (ks.take k ++ (nk, (.mk kk dk ek (.slice sa ksk.length sc) ksk : Lt)) :: ks.drop (k + 1))) := by rw [hdk]; exact hO7
        obtain ⟨hO9, hF9⟩ := put_kid (k := k) ky dy ey (.slice ya ksy.length yc) ksy hO7' (by simp; omega)
        have HO9 := hidd hO9
        have HF9 := hidd hF9
        have HO7 := hidd hO7
        have HSB := hidd sB
        have HSZ := hidd sZ
        have HY7 := hidd hY7
        have HIN7 := hidd hin7
        clear hO7 hO7' hO9 hF9 hdk sB sZ hY7 hin7 hN7 hb7
        go_upto_region 14 with fail
        have hgB : w.heap.size + 3 ≤ g7 := by omega
        have sB9 := HSB.out.fr HF9.out (by omega)
        have sZ9 := HSZ.out.fr HF9.out (by omega)
        have hY9 := ok_fr HF9.out _ HY7.out (in_mono (fun b hb e => by omega) _ HIN7.out)
        have hO9 := HO9.out
        have hW9 := sW.trans (HF9.out.below sW.size (fun b e => by omega))
        unfold put4 at sB9 sZ9 hY9 hO9 hW9
        clear x3 n0 n1 n2 n3 d0 d1 d2 d3 d4 z1 z2 z3 z4 HSB HSZ HF9 HO9 HO7 HY7 sW
        generalize ((((w8.setCell ⟨g7, o7 + k * 5 + 1, none⟩ (.string ky)).setCell ⟨g7, o7 + k * 5 + 1 + 1, none⟩ (.string dy)).setCell ⟨g7, o7 + k * 5 + 1 + 2, none⟩ (.bool ey)).setCell ⟨g7, o7 + k * 5 + 1 + 3, none⟩ (.slice ya ksy.length yc)) = w9 at *
        have x0 := sB9.cell (i := 0) rfl
        have x1 := sB9.cell (i := 1) rfl
        have x2 := sB9.cell (i := 2) rfl
        have x3 := sB9.cell (i := 3) rfl
        have f0 := sZ9.frozen 0
        have f1 := sZ9.frozen 1
        have f2 := sZ9.frozen 2
        have f3 := sZ9.frozen 3
        have y0 := sZ9.cell (i := 0) rfl
        have y1 := sZ9.cell (i := 1) rfl
        have y2 := sZ9.cell (i := 2) rfl
        have y3 := sZ9.cell (i := 3) rfl
        have s4 := sZ9.four (x0 := .string kDir) (x1 := .string da) (x2 := .bool ex') (x3 := .slice (some ⟨g7, o7, none⟩) ks.length c7)
        have r0 := s4.cell (i := 0) rfl
        have r1 := s4.cell (i := 1) rfl
        have r2 := s4.cell (i := 2) rfl
        have r3 := s4.cell (i := 3) rfl
        have hFR := (Fr.refl (fun b => b = w.heap.size + 2) w9).four (p := w.heap.size + 2) (.inl rfl) (.string kDir) (.string da) (.bool ex') (.slice (some ⟨g7, o7, none⟩) ks.length c7)
        have hBF := hW9.trans (hFR.below hW9.size (fun b e => by omega))
        have HYF := hidd (ok_fr hFR _ hY9 (in_mono (fun b hb e => by omega) _ HYI.out))
        have HOF := hidd (hO9.fr hFR (fun j hj e => by have := (hO9.blk j hj).1; omega)).sl
        clear sB9 sZ9 s4 hW9 hFR hY9 hO9
        go_wp2_with fail
        refine bodyPost_ret (v := .tuple #[.agg #[.string kDir, .string da, .bool ex', .slice (some ⟨g7, o7, none⟩) ks.length c7], .bool b5]) ?_ rfl ?_
        · rw [results_cell_tmp rfl]
          go_simp
        · have hnk : ks[k].1 = nk := by rw [HXK.out]
          have hset := with_set HT.out HYF.out hBF hk (by rw [hnk]; exact HOF.out)
          rw [hnk] at hset
          refine ⟨_, b5, rfl, hset, fun F h1 h2 => set_in h1 (hI6.out F (by have := h1.kid (x := ks[k]) (List.getElem_mem hk); rw [HXK.out] at this; exact this) h2) (fun j hj => by simp [Value.ownBlock] at hj; omega), hBF, ?_⟩
          rw [HWH.out]
          have hm := hm5.out
          cases hw : withT (Tr.mk kx dx ex (.slice xa ksx.length xc) ksx : Lt).bare r (Tr.mk kk dk ek (.slice sa ksk.length sc) ksk : Lt).bare with
          | none => rw [hw] at hm; exact hm
          | some Y =>
            rw [hw] at hm
            refine ⟨hm.1, ?_⟩
            rw [bare_mk, List.map_append, List.map_cons, hm.2]
  · have e1 : (kd.toList == [100, 105, 114]) = false := by
      have := ne_str hd
      simp only [beq_eq_false_iff_ne, ne_eq]
      exact fun e => this (by rw [e, kDir_list])
    have f0 := hK.bz.frozen 0
    have f1 := hK.bz.frozen 1
    have f2 := hK.bz.frozen 2
    have f3 := hK.bz.frozen 3
    have y0 := hK.bz.cell (i := 0) rfl
    have y1 := hK.bz.cell (i := 1) rfl
    have y2 := hK.bz.cell (i := 2) rfl
    have y3 := hK.bz.cell (i := 3) rfl
    have HW : Hid (withT (Tr.bare (.mk kx dx ex (.slice xa ksx.length xc) ksx)) (n :: r) (Tr.bare (.mk kd da ex' (.slice a ks.length cap) ks)) = none) := hidd (with_leaf (by unfold Tr.bare; rw [Tr.kind_map]; exact hd))
    clear hK ht hx h0
    go_enter Tryd.func44, Tryd.ntmps44
    go_wp2_with fail
    refine bodyPost_ret (v := .tuple #[.agg #[.string kd, .string da, .bool ex', .slice a ks.length cap], .bool false]) ?_ rfl ?_
    · rw [results_cell_tmp rfl]
      go_simp
    · exact ⟨_, false, rfl, HT.out.ob (three_below w _ _ _ _), fun F h1 h2 => in_mono (fun b hb => .inl hb) _ h1, three_below w _ _ _ _, by rw [HW.out]⟩

/-- path.with. -/
theorem with_any : ∀ (l : List ByteArray) (t x : Lt) (v : Value) (w : World), t.Ok w → x.Ok w → treeE t = 0 → Sl w v (tcells l) l.length 1 → (∀ m ∈ l, m.size ≤ 140737488351232) →
    Calls Tryd.prog 44 #[nval t, v, nval x] w (WithP t x l w)
  | [], t, x, v, w, ht, hx, _, hl, _ => with_none t x v w ht hx hl
  | n :: r, t, x, v, w, ht, hx, h0, hl, hs => with_cons n r (fun t x v w h1 h2 h3 h4 h5 => with_any r t x v w h1 h2 h3 h4 h5) t x v w ht hx h0 hl hs
end Go.Proofs.YtoaedkinlnkkhaaDoor
