/- Slices that are only read: what a slice's elements are; slices.Index, Contains over ints. Condition: the slice's cells are there. · Slices that a call owns, at any offset of their block, and append onto them from any source. Condition: the sizes fit. -/
import Derived.Test.YtoemahhpheobkaaGreatDoorEnv
import Derived.Deep.AppendSrc
namespace Go.Proofs.YtoemahhpheobkaaGreatDoor
open Go.RowKit

/-- v is a slice of n elements whose cells are cs (size cells an element). -/
def Sl (w : World) (v : Value) (cs : List Value) (n size : Nat) : Prop :=
  ∃ a cap, v = .slice a n cap ∧ cs.length = n * size ∧ n ≤ cap ∧ cap ≤ maxLen ∧ (n = 0 ∨ ∃ b off, a = some ⟨b, off, none⟩ ∧ b < w.heap.size ∧ ∀ j (h : j < cs.length), w.cell? ⟨b, off + j, none⟩ = some cs[j])

theorem Sl.nil (w : World) (size : Nat) : Sl w (.slice none 0 0) [] 0 size := ⟨none, 0, rfl, by simp, Nat.le_refl _, by unfold maxLen; omega, .inl rfl⟩
theorem Sl.of_owns {w : World} {base : Nat} {e : TypeId} {size : Nat} {v : Value} {n : Nat} {xs : List Value} (h : w.ownsRow base e size v n xs) : Sl w v xs n size := by
  rcases h.2 with ⟨rfl, rfl⟩ | ⟨g, cap, cur, rfl, hg, hgg, hn, hm, hcs, ht⟩
  · exact ⟨_, _, rfl, h.1, Nat.le_refl _, by unfold maxLen; omega, .inl rfl⟩
  · refine ⟨_, _, rfl, h.1, hn, hm, .inr ⟨g, 0, rfl, (Array.getElem?_eq_some_iff.1 hgg).1, fun j hj => ?_⟩⟩
    have hh := h.cells (g := g) rfl j xs[j] (by simp [hj])
    have e : (⟨g, 0, none⟩ : Addr).add j = ⟨g, 0 + j, none⟩ := by unfold Addr.add; split <;> simp_all
    rw [e] at hh; exact hh
theorem Sl.fr {w w' : World} {v : Value} {cs : List Value} {n size : Nat} {S : Nat → Prop} (h : Sl w v cs n size) (hf : Fr S w w') (hS : ∀ k, v.ownBlock = some k → ¬ S k) : Sl w' v cs n size := by
  obtain ⟨a, cap, rfl, h1, h2, h2', h3⟩ := h
  refine ⟨a, cap, rfl, h1, h2, h2', ?_⟩
  rcases h3 with h3 | ⟨b, off, rfl, h4, h5⟩
  · exact .inl h3
  · exact .inr ⟨b, off, rfl, Nat.lt_of_lt_of_le h4 hf.size, fun j hj => hf.cell (h5 j hj) (hS b rfl)⟩
theorem Sl.ob {w w' : World} {v : Value} {cs : List Value} {n size B : Nat} (h : Sl w v cs n size) (hf : Below B w w') (hB : w.heap.size ≤ B) : Sl w' v cs n size := by
  obtain ⟨a, cap, rfl, h1, h2, h2', h3⟩ := h
  refine ⟨a, cap, rfl, h1, h2, h2', ?_⟩
  rcases h3 with h3 | ⟨b, off, rfl, h4, h5⟩
  · exact .inl h3
  · exact .inr ⟨b, off, rfl, Nat.lt_of_lt_of_le h4 hf.size, fun j hj => by rw [hf.cell (by simp; omega)]; exact h5 j hj⟩
/-- The read of element i (size 1), in the walk's spelling. -/
theorem Sl.at1 {w : World} {a : Option Addr} {cap : Nat} {cs : List Value} {n : Nat} (h : Sl w (.slice a n cap) cs n 1) {i : Nat} (hi : i < n) :
    ∃ b off, a = some ⟨b, off, none⟩ ∧ b < w.heap.size ∧ ∃ hc : i < cs.length, w.cell? ⟨b, off + i, none⟩ = some cs[i] := by
  obtain ⟨a', cap', he, h1, h2, h2', h3⟩ := h
  simp only [Value.slice.injEq] at he
  obtain ⟨rfl, _, rfl⟩ := he
  rcases h3 with h3 | ⟨b, off, rfl, h4, h5⟩
  · omega
  · exact ⟨b, off, rfl, h4, by omega, h5 i (by omega)⟩
theorem Sl.le {w : World} {v : Value} {cs : List Value} {n size : Nat} (h : Sl w v cs n size) : n ≤ 9223372036854775807 := by
  obtain ⟨a, cap, rfl, h1, h2, h2', h3⟩ := h
  unfold maxLen at h2'; omega

/-- ints as cells -/
def icells (l : List Int) : List Value := l.map (Value.int .i64)
theorem icells_len (l : List Int) : (icells l).length = l.length := by simp [icells]

def IdxPost (x : Int) (l : List Int) (w : World) (e : Ending) (w' : World) : Prop := (∃ k : Int, e = .returned (.int .i64 k) ∧ (0 ≤ k ↔ x ∈ l)) ∧ w = w'
/-- slices.Index over ints. -/
theorem index_any (v : Value) (l : List Int) (x : Int) (w : World) (h : Sl w v (icells l) l.length 1) :
    Calls Tryz.prog 115 #[v, .int .i64 x] w (IdxPost x l w) := by
  obtain ⟨a, cap, rfl, -⟩ := id h
  have hm := h.le
  go_enter Tryz.func115, Tryz.ntmps115
  go_wp2
  go_loop [8] (fun i => ∃ k : Nat, k ≤ l.length ∧ i = .int .i64 k ∧ x ∉ l.take k) (fun i => l.length - (intOf i).toNat)
  case atStart => exact ⟨0, Nat.zero_le _, rfl, by simp⟩
  case round =>
    obtain ⟨k, hk, rfl, hnot⟩ := hrel
    by_cases hlt : k < l.length
    · obtain ⟨b, off, rfl, -, hc, hcell⟩ := h.at1 hlt
      rw [show (icells l)[k] = .int .i64 l[k] by simp [icells]] at hcell
      by_cases hx : x = l[k]
      · have hxe : (x == l[k]) = true := by simp [hx]
        have hin : x ∈ l := by rw [hx]; exact List.getElem_mem _
        generalize l[k] = y at *
        clear hx hnot h
        go_wp2
        go_ret
        exact ⟨⟨_, rfl, by simp [hin]⟩, rfl⟩
      · have hxe : (x == l[k]) = false := by simp [hx]
        have hnot' : x ∉ l.take (k + 1) := by
          intro hmem
          rw [List.take_succ_eq_append_getElem hlt] at hmem
          rcases List.mem_append.1 hmem with h1 | h1
          · exact hnot h1
          · exact hx (by simpa using h1)
        generalize l[k] = y at *
        clear hx hnot h
        go_wp2
        go_round
        case rel => exact ⟨k + 1, by omega, by go_num, hnot'⟩
        case measure => simp [intOf]; omega
    · rw [List.take_of_length_le (by omega)] at hnot
      clear h
      go_wp2
      go_ret
      exact ⟨⟨-1, rfl, by simp [hnot]⟩, rfl⟩

def IsBool (b : Bool) (w : World) (e : Ending) (w' : World) : Prop := e = .returned (.bool b) ∧ w = w'

theorem contains_any (v : Value) (l : List Int) (x : Int) (w : World) (h : Sl w v (icells l) l.length 1) :
    Calls Tryz.prog 94 #[v, .int .i64 x] w (IsBool (decide (x ∈ l)) w) := by
  by_cases hx : x ∈ l
  · have HX := hidd hx
    go_enter Tryz.func94, Tryz.ntmps94
    go_wp2_with fail
    refine (index_any v l x w h).mono ?_
    rintro e w' ⟨⟨k, rfl, hk⟩, rfl⟩
    have hk0 : 0 ≤ k := hk.2 hx
    clear hk hx
    go_wp2
    go_ret
    exact ⟨by simp [HX.out], rfl⟩
  · have HX := hidd hx
    go_enter Tryz.func94, Tryz.ntmps94
    go_wp2_with fail
    refine (index_any v l x w h).mono ?_
    rintro e w' ⟨⟨k, rfl, hk⟩, rfl⟩
    have hk0 : ¬ 0 ≤ k := fun h0 => hx (hk.1 h0)
    clear hk hx
    go_wp2
    go_ret
    exact ⟨by simp [HX.out]; omega, rfl⟩
end Go.Proofs.YtoemahhpheobkaaGreatDoor

namespace Go.Proofs.YtoemahhpheobkaaGreatDoor
open Go.RowKit

/-- v is a slice of n elements whose cells are xs, in a block of F that nobody else holds. -/
def Ow (F : Nat → Prop) (w : World) (e : TypeId) (size : Nat) (v : Value) (n : Nat) (xs : List Value) : Prop :=
  xs.length = n * size ∧
  ((v = .slice none 0 0 ∧ n = 0) ∨
   ∃ g off cap cur, v = .slice (some ⟨g, off, none⟩) n cap ∧ F g ∧ w.heap[g]? = some (.cells cur e (0, 0)) ∧ n ≤ cap ∧ cap ≤ maxLen ∧ off + cap * size ≤ cur.size ∧ (cur.toList.drop off).take (n * size) = xs)

section
variable {F : Nat → Prop} {w : World} {e : TypeId} {size : Nat} {v : Value} {n : Nat} {xs : List Value}
theorem Ow.nil (F : Nat → Prop) (w : World) (e : TypeId) (size : Nat) : Ow F w e size (.slice none 0 0) 0 [] := ⟨by simp, .inl ⟨rfl, rfl⟩⟩
theorem Ow.shape (h : Ow F w e size v n xs) : ∃ a cap, v = .slice a n cap := by
  rcases h.2 with ⟨rfl, rfl⟩ | ⟨g, off, cap, cur, rfl, _⟩
  · exact ⟨_, _, rfl⟩
  · exact ⟨_, _, rfl⟩
theorem Ow.of_owns {base : Nat} (h : w.ownsRow base e size v n xs) (hF : ∀ g, base ≤ g → F g) : Ow F w e size v n xs := by
  refine ⟨h.1, ?_⟩
  rcases h.2 with hx | ⟨g, cap, cur, rfl, hb, hg, hn, hm, hs, ht⟩
  · exact .inl hx
  · exact .inr ⟨g, 0, cap, cur, rfl, hF g hb, hg, hn, hm, by omega, by simpa using ht⟩
theorem Ow.mono {F' : Nat → Prop} (h : Ow F w e size v n xs) (hF : ∀ g, F g → F' g) : Ow F' w e size v n xs := by
  refine ⟨h.1, ?_⟩
  rcases h.2 with hx | ⟨g, off, cap, cur, rfl, hb, rest⟩
  · exact .inl hx
  · exact .inr ⟨g, off, cap, cur, rfl, hF g hb, rest⟩
theorem Ow.blk (h : Ow F w e size v n xs) : ∀ k, v.ownBlock = some k → F k ∧ k < w.heap.size := by
  intro k hk
  rcases h.2 with ⟨rfl, _⟩ | ⟨g, off, cap, cur, rfl, hb, hg, _⟩
  · simp [Value.ownBlock] at hk
  · simp [Value.ownBlock] at hk; subst hk
    exact ⟨hb, (Array.getElem?_eq_some_iff.1 hg).1⟩
theorem Ow.fr {w' : World} {S : Nat → Prop} (h : Ow F w e size v n xs) (hf : Fr S w w') (hS : ∀ k, v.ownBlock = some k → ¬ S k) : Ow F w' e size v n xs := by
  refine ⟨h.1, ?_⟩
  rcases h.2 with hx | ⟨g, off, cap, cur, rfl, hb, hg, rest⟩
  · exact .inl hx
  · exact .inr ⟨g, off, cap, cur, rfl, hb, hf.heap hg (hS g rfl), rest⟩
theorem Ow.frF {w' : World} {S : Nat → Prop} (h : Ow F w e size v n xs) (hf : Fr S w w') (hS : ∀ k, F k → ¬ S k) : Ow F w' e size v n xs := h.fr hf fun k hk => hS k (h.blk k hk).1
theorem Ow.ob {w' : World} (h : Ow F w e size v n xs) (hf : Below w.heap.size w w') : Ow F w' e size v n xs := h.fr (S := fun _ => False) (Fr.ob hf) (fun _ _ x => x)
theorem Ow.alloc (h : Ow F w e size v n xs) (o : Obj) : Ow F (w.alloc o) e size v n xs := h.ob ((Below.refl _ _).alloc (Nat.le_refl _) o)
theorem Ow.drew (h : Ow F w e size v n xs) : Ow F w.drew e size v n xs := h
theorem Ow.drewN (h : Ow F w e size v n xs) (k : Nat) : Ow F (w.drewN k) e size v n xs := h
theorem Ow.set (h : Ow F w e size v n xs) {a : Addr} (hb : ¬ F a.block) (u : Value) : Ow F (w.setCell a u) e size v n xs :=
  h.fr (S := fun k => k = a.block) ((Fr.refl (fun k => k = a.block) w).setCell (p := a) (.inl rfl) u) (fun k hk e => hb (e ▸ (h.blk k hk).1))
theorem Ow.cells {a : Option Addr} {cap : Nat} (h : Ow F w e size (.slice a n cap) n xs) : xs = [] ∨ ∃ g off, a = some ⟨g, off, none⟩ ∧ F g ∧ g < w.heap.size ∧ ∀ j (hj : j < xs.length), w.cell? ⟨g, off + j, none⟩ = some xs[j] := by
  rcases h.2 with ⟨he, hn⟩ | ⟨g, off, cap', cur, he, hb, hg, hnc, hm, hsz, ht⟩
  · left; have := h.1; subst hn; exact List.eq_nil_of_length_eq_zero (by simpa using this)
  · right
    simp only [Value.slice.injEq] at he
    obtain ⟨rfl, _, rfl⟩ := he
    refine ⟨g, off, rfl, hb, (Array.getElem?_eq_some_iff.1 hg).1, fun j hj => ?_⟩
    rw [cell_of_row w g (off + j) cur e (0, 0) hg]
    rw [← List.getElem?_eq_getElem hj]
    have hl := h.1
    rw [← ht, List.getElem?_take, if_pos (by omega), List.getElem?_drop, Array.getElem?_toList]
theorem Ow.sl (h : Ow F w e size v n xs) : Sl w v xs n size := by
  obtain ⟨a, cap, rfl⟩ := h.shape
  refine ⟨a, cap, rfl, h.1, ?_, ?_, ?_⟩
  · rcases h.2 with ⟨he, rfl⟩ | ⟨g, off, cap', cur, he, hb, hg, hnc, hm, hsz, ht⟩
    · omega
    · simp only [Value.slice.injEq] at he; obtain ⟨_, _, rfl⟩ := he; exact hnc
  · rcases h.2 with ⟨he, rfl⟩ | ⟨g, off, cap', cur, he, hb, hg, hnc, hm, hsz, ht⟩
    · simp only [Value.slice.injEq] at he; obtain ⟨_, _, rfl⟩ := he; unfold maxLen; omega
    · simp only [Value.slice.injEq] at he; obtain ⟨_, _, rfl⟩ := he; exact hm
  · rcases h.2 with ⟨he, rfl⟩ | ⟨g, off, cap', cur, he, hb, hg, hnc, hm, hsz, ht⟩
    · exact .inl rfl
    · rcases h.cells with hx | ⟨g', off', rfl, _, hlt, hc⟩
      · simp only [Value.slice.injEq] at he; obtain ⟨rfl, _, rfl⟩ := he
        exact .inr ⟨g, off, rfl, (Array.getElem?_eq_some_iff.1 hg).1, fun j hj => by subst hx; simp at hj⟩
      · exact .inr ⟨g', off', rfl, hlt, hc⟩
/-- s[k:] -/
theorem Ow.drop {a : Addr} {cap : Nat} (h : Ow F w e size (.slice (some a) n cap) n xs) {k : Nat} (hk : k ≤ n) : Ow F w e size (.slice (some ⟨a.block, a.off + k * size, none⟩) (n - k) (cap - k)) (n - k) (xs.drop (k * size)) := by
  rcases h.2 with ⟨he, hn⟩ | ⟨g, off, cap', cur, he, hb, hg, hnc, hm, hsz, ht⟩
  · cases he
  · simp only [Value.slice.injEq, Option.some.injEq] at he
    obtain ⟨rfl, _, rfl⟩ := he
    have hks : k * size ≤ n * size := Nat.mul_le_mul_right _ hk
    have hks2 : k * size ≤ cap * size := Nat.mul_le_mul_right _ (by omega)
    refine ⟨by rw [List.length_drop, h.1, Nat.sub_mul], .inr ⟨g, off + k * size, cap - k, cur, rfl, hb, hg, by omega, by omega, by rw [Nat.sub_mul]; omega, ?_⟩⟩
    rw [← ht, List.drop_take, List.drop_drop, Nat.sub_mul]
end

theorem heap_setCells {g : Nat} {e : TypeId} : ∀ (vs : List Value) (o : Nat) (w : World) (cur : Array Value), w.heap[g]? = some (.cells cur e (0, 0)) → o + vs.length ≤ cur.size →
    ∃ cur', (w.setCells g o vs).heap[g]? = some (.cells cur' e (0, 0)) ∧ cur'.size = cur.size ∧ cur'.toList = cur.toList.take o ++ vs ++ cur.toList.drop (o + vs.length)
  | [], o, w, cur, h, _ => ⟨cur, h, rfl, by simp⟩
  | v :: r, o, w, cur, h, hl => by
    have h1 : (w.setCell ⟨g, o, none⟩ v).heap[g]? = some (.cells (cur.setIfInBounds o v) e (0, 0)) := by simp [World.setCell, Array.getElem?_modify, h]
    simp only [List.length_cons] at hl
    obtain ⟨cur', i1, i2, i3⟩ := heap_setCells r (o + 1) _ _ h1 (by simp; omega)
    refine ⟨cur', i1, by simpa using i2, ?_⟩
    rw [i3]
    have ho : o < cur.toList.length := by simp; omega
    simp only [Array.toList_setIfInBounds]
    rw [List.take_succ_eq_append_getElem (by simpa using ho), List.getElem_set_self, List.take_set_of_le (Nat.le_refl _), List.drop_set_of_lt (by omega)]
    simp only [List.append_assoc, List.cons_append, List.nil_append, List.length_cons]
    rw [show o + 1 + r.length = o + (r.length + 1) by omega]
theorem Fr.setCells {S : Nat → Prop} {a : World} {g : Nat} (hg : S g ∨ a.heap.size ≤ g) : ∀ (vs : List Value) (o : Nat) (w : World), Fr S a w → Fr S a (w.setCells g o vs)
  | [], _, _, h => h
  | v :: r, o, _, h => Fr.setCells hg r (o + 1) _ (h.setCell hg v)
theorem grown_setCells (g : Nat) (vs : List Value) (o : Nat) (w : World) : w.grownBy (w.setCells g o vs) (some g) := by
  have := Fr.setCells (S := fun k => k = g) (a := w) (g := g) (.inl rfl) vs o w (Fr.refl _ _)
  exact ⟨this.os, this.tape, this.output, this.size, fun k hk hn => this.block k hk (fun e => hn (by rw [e]))⟩

section
variable {P : Program} (w : World)
theorem run_append_ow (F : Nat → Prop) (hF : ∀ g, w.heap.size ≤ g → F g) (t tx ty e : TypeId) (i : TypeInfo) (z : Value) (size bytes : Nat) (ht : P.underlying t = some (.slice e)) (hi : P.info? e = some i) (hz : i.zero = some z)
    (hsize : i.size = size) (hby : i.bytes = bytes) (hzs : z.cells.size = size) (hsz : 0 < size)
    (v : Value) (n : Nat) (xs : List Value) (hown : Ow F w e size v n xs) (x : Value) (m : Nat) (news : List Value) (hs : Src P size tx x m news w)
    (h63 : n + m ≤ maxLen) (hbytes : (n + m) * bytes ≤ 140737488355328) :
    ∃ v' w', (Builtin.append_ #[t, tx] ty #[v, x]).run P w = .ok v' w' ∧ Ow F w' e size v' (n + m) (xs ++ news) ∧ w.grownBy w' v.ownBlock := by
  subst hsize
  subst hby
  have hlen : (xs ++ news).length = (n + m) * i.size := by rw [List.length_append, hown.1, hs.newsLen, Nat.add_mul]
  have grown : ∀ (old : Nat) (row : Option Nat),
      Ow F (w.drew.alloc (.cells ((xs ++ news).toArray ++ Builtin.zeroCells z.cells (grownCap w (n + m) old e - (n + m))) e)) e i.size (.slice (some ⟨w.heap.size, 0, none⟩) (n + m) (grownCap w (n + m) old e)) (n + m) (xs ++ news) ∧
      w.grownBy (w.drew.alloc (.cells ((xs ++ news).toArray ++ Builtin.zeroCells z.cells (grownCap w (n + m) old e - (n + m))) e)) row := by
    intro old row
    have hge := grownCap_ge w (n + m) old e
    have hcm : grownCap w (n + m) old e ≤ maxLen := grownCap_le_maxLen w (n + m) old e h63
    refine ⟨⟨hlen, .inr ⟨w.heap.size, 0, _, _, rfl, hF _ (Nat.le_refl _), heap_alloc_new w.drew _, hge, hcm, ?_, ?_⟩⟩, ⟨rfl, rfl, rfl, by simp, fun k hk _ => Below.heap_alloc w.drew _ k hk⟩⟩
    · simp only [Array.size_append, List.size_toArray, size_zeroCells, hzs, hlen, ← Nat.add_mul, Nat.zero_add]
      exact Nat.le_of_eq (by congr 1; omega)
    · simp only [Array.toList_append, List.drop_zero]
      rw [← hlen]
      exact List.take_left
  rcases hown.2 with ⟨rfl, rfl⟩ | ⟨g, off, cap, cur, rfl, hbg, hg, hnc, hcm, hcs, htake⟩
  · have hx : xs = [] := List.eq_nil_of_length_eq_zero (by simpa using hown.1)
    subst hx
    by_cases hm : m = 0
    · subst hm
      have hn : news = [] := List.eq_nil_of_length_eq_zero (by simpa using hs.newsLen)
      subst hn
      refine ⟨.slice none 0 0, w, ?_, Ow.nil F w e i.size, ⟨rfl, rfl, rfl, Nat.le_refl _, fun _ _ _ => rfl⟩⟩
      have hc := hs.cells
      rcases hs.kind with ⟨e', hk⟩ | hk <;> simp [Builtin.append_, run_underlying ht, run_underlying hk, sizeOf, typeInfo, hi, hs.len, hc]
    · have hr := run_append_grow_src (P := P) w t tx ty e i z ht hi hz none 0 0 [] (run_firstCells_none w.drew i.size 0 0 0) x m news hs (by omega) (by unfold maxLen at h63; omega) (growslice_fits (by omega) hbytes)
      have hgr := grown 0 (Value.ownBlock (.slice none 0 0))
      simp only [Nat.zero_add, List.nil_append] at hgr hr ⊢
      exact ⟨_, _, hr, hgr.1, hgr.2⟩
  · by_cases hroom : n + m ≤ cap
    · have hfit : off + n * i.size + news.length ≤ cur.size := by
        rw [hs.newsLen, Nat.add_assoc, ← Nat.add_mul]; exact Nat.le_trans (Nat.add_le_add_left (Nat.mul_le_mul_right _ hroom) _) hcs
      have hr := run_append_room_src (P := P) w t tx ty e i ht hi g off n cap x m news hs hroom
        (fun j hj => by rw [cell_of_row w g _ cur e (0, 0) hg]; simp; omega) (fun j hj => by simp [World.frozen?, hg])
      obtain ⟨cur', c1, c2, c3⟩ := heap_setCells (g := g) (e := e) news (off + n * i.size) w cur hg hfit
      refine ⟨_, _, hr, ⟨hlen, .inr ⟨g, off, cap, cur', rfl, hbg, c1, hroom, hcm, by rw [c2]; exact hcs, ?_⟩⟩, grown_setCells g news _ w⟩
      rw [c3, ← htake]
      have hcl : off + n * i.size ≤ cur.toList.length := by simp; omega
      have e1 : (cur.toList.take (off + n * i.size)).drop off = (cur.toList.drop off).take (n * i.size) := by
        rw [List.drop_take]; congr 1; omega
      rw [List.append_assoc, List.drop_append_of_le_length (by rw [List.length_take]; omega), e1, ← List.append_assoc, List.take_append_of_le_length, List.take_of_length_le]
      · rw [htake, hlen]; exact Nat.le_refl _
      · rw [htake, hlen]; exact Nat.le_refl _
    · have hr := run_append_grow_src (P := P) w t tx ty e i z ht hi hz (some ⟨g, off, none⟩) n cap xs
        (run_firstCells_some w.drew i.size n ⟨g, off, none⟩ n cap xs hown.1 (fun j u hu => by
          rcases Ow.cells hown with hx | ⟨g', off', he, _, _, hc⟩
          · subst hx; simp at hu
          · simp only [Option.some.injEq, Addr.mk.injEq] at he
            obtain ⟨rfl, rfl, _⟩ := he
            obtain ⟨hj, rfl⟩ := List.getElem?_eq_some_iff.1 hu
            have ea : (⟨g, off, none⟩ : Addr).add j = ⟨g, off + j, none⟩ := by unfold Addr.add; split <;> simp_all
            rw [ea]
            exact hc j hj)) x m news hs (by omega) (by unfold maxLen at h63; omega) (growslice_fits (by omega) hbytes)
      have hgr := grown cap (Value.ownBlock (.slice (some ⟨g, off, none⟩) n cap))
      exact ⟨_, _, hr, hgr.1, hgr.2⟩

theorem wpList_append_ow {ops : Array Oper} {rest : List Oper} {o : Oper} {a : Act} {Q : Exit → Act → World → Prop} (hgd : o.guard = none) (s x : Operand) (t tx : TypeId)
    (ho : o.op = .call { callee := .builtin .append, args := #[s, x], argTypes := #[t, tx] })
    (F : Nat → Prop) (hF : ∀ g, w.heap.size ≤ g → F g) (e : TypeId) (i : TypeInfo) (z : Value) (size bytes : Nat) (ht : P.underlying t = some (.slice e)) (hi : P.info? e = some i) (hz : i.zero = some z)
    (hsize : i.size = size) (hby : i.bytes = bytes) (hzs : z.cells.size = size) (hsz : 0 < size)
    (v : Value) (n : Nat) (xs : List Value) (hv : a.eval s = v) (hown : Ow F w e size v n xs) (y : Value) (m : Nat) (news : List Value) (hy : a.eval x = y) (hs : Src P size tx y m news w)
    (h63 : n + m ≤ maxLen) (hbytes : (n + m) * bytes ≤ 140737488355328)
    (h : ∀ v' w', Ow F w' e size v' (n + m) (xs ++ news) → w.grownBy w' v.ownBlock → wpList P ops Q rest (a.put o.dst v') w') : wpList P ops Q (o :: rest) a w :=
  wpList_plain hgd fun K hK => by
    obtain ⟨v', w', hr, h2, h3⟩ := run_append_ow (P := P) w F hF t tx o.type e i z size bytes ht hi hz hsize hby hzs hsz v n xs hown y m news hs h63 hbytes
    unfold Oper.wp execOp
    simp only [ho, resolve, invoke, builtin, Sem.run_bind, Sem.run_pure, Result.andThen_ok, List.map_toArray, List.map_cons, List.map_nil, hv, hy, hr]
    exact hK _ _ (h v' w' h2 h3)
end
/-- A source: one new block that holds one element. -/
theorem Src.new {P : Program} {size tx e' : TypeId} (hk : P.underlying tx = some (.slice e')) (w : World) (b : Nat) (hb : b = w.heap.size) (cs : List Value) (T : TypeId) (hl : cs.length = size) (h1 : ∀ u ∈ cs, u.oneCell' = true) (c : Nat) :
    Src P size tx (.slice (some ⟨b, 0, none⟩) 1 c) 1 cs (w.alloc (.cells cs.toArray T)) :=
  Src.ofSlice _ hk _ _ _ _ (by simp [hl]) (fun j u hu => by
    subst hb
    have ea : (⟨w.heap.size, 0, none⟩ : Addr).add j = ⟨w.heap.size, j, none⟩ := by unfold Addr.add; split <;> simp_all
    rw [ea, (Blk.new w cs T).cell hu]) h1
/-- A source: any slice. -/
theorem Src.sl {P : Program} {size tx e' : TypeId} (hk : P.underlying tx = some (.slice e')) {w : World} {v : Value} {n : Nat} {cs : List Value} (h : Sl w v cs n size) (h1 : ∀ u ∈ cs, u.oneCell' = true) : Src P size tx v n cs w := by
  obtain ⟨a, cap, rfl, hl, hn, hm, h3⟩ := h
  cases a with
  | none =>
    rcases h3 with rfl | ⟨b, off, he, _⟩
    · have : cs = [] := List.eq_nil_of_length_eq_zero (by simpa using hl)
      subst this
      exact Src.ofNil _ hk _
    · cases he
  | some ad =>
    refine Src.ofSlice _ hk _ _ _ _ hl (fun j u hu => ?_) h1
    obtain ⟨hj, rfl⟩ := List.getElem?_eq_some_iff.1 hu
    rcases h3 with rfl | ⟨b, off, he, _, hc⟩
    · simp at hl; subst hl; simp at hj
    · simp only [Option.some.injEq] at he; subst he
      have ea : (⟨b, off, none⟩ : Addr).add j = ⟨b, off + j, none⟩ := by unfold Addr.add; split <;> simp_all
      rw [ea]; exact hc j hj

end Go.Proofs.YtoemahhpheobkaaGreatDoor
