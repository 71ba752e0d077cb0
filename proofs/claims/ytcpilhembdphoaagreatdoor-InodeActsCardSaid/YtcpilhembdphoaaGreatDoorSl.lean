/- Slices that are only read: what a slice's elements are; slices.Index, Contains over ints. Condition: the slice's cells are there. -/
import Derived.Test.YtcpilhembdphoaaGreatDoorEnv
namespace Go.Proofs.YtcpilhembdphoaaGreatDoor
open Go.RowKit

/-- v is a slice of n elements whose cells are cs (size cells an element). -/
def Sl (w : World) (v : Value) (cs : List Value) (n size : Nat) : Prop :=
  ∃ a cap, v = .slice a n cap ∧ cs.length = n * size ∧ n ≤ cap ∧ cap ≤ maxLen ∧ (n = 0 ∨ ∃ b off, a = some ⟨b, off, none⟩ ∧ b < w.heap.size ∧ ∀ j (h : j < cs.length), w.cell? ⟨b, off + j, none⟩ = some cs[j])

theorem Sl.nil (w : World) (size : Nat) : Sl w (.slice none 0 0) [] 0 size := ⟨none, 0, rfl, by simp, Nat.le_refl _, by unfold maxLen; omega, .inl rfl⟩
theorem Sl.of_owns {w : World} {base : Nat} {e : TypeId} {size : Nat} {v : Value} {n : Nat} {xs : List Value} (h : w.ownsRow base e size v n xs) : Sl w v xs n size := by
  rcases h.2 with ⟨rfl, rfl⟩ | ⟨g, cap, cur, rfl, hg, hgg, hn, hm, hcs, ht⟩
  · exact ⟨_, _, rfl, h.1, Nat.le_refl _, by unfold maxLen; omega, .inl rfl⟩
  · refine ⟨_, _, rfl, h.1, hn, hm, .inr ⟨g, 0, rfl, (Array.getElem?_eq_some_iff.1 hgg).1, fun j hj => ?_⟩⟩
    have hh := h.cells (g := g) rfl j xs[j] (by simp [hj])
    have e : (⟨g, 0, none⟩ : Addr).add j = ⟨g, 0 + j, none⟩ := by unfold Addr.add; split <;> simp_all
    rw [e] at hh; exact hh
theorem Sl.fr {w w' : World} {v : Value} {cs : List Value} {n size : Nat} {S : Nat → Prop} (h : Sl w v cs n size) (hf : Fr S w w') (hS : ∀ k, v.ownBlock = some k → ¬ S k) : Sl w' v cs n size := by
  obtain ⟨a, cap, rfl, h1, h2, h2', h3⟩ := h
  refine ⟨a, cap, rfl, h1, h2, h2', ?_⟩
  rcases h3 with h3 | ⟨b, off, rfl, h4, h5⟩
  · exact .inl h3
  · exact .inr ⟨b, off, rfl, Nat.lt_of_lt_of_le h4 hf.size, fun j hj => hf.cell (h5 j hj) (hS b rfl)⟩
theorem Sl.ob {w w' : World} {v : Value} {cs : List Value} {n size B : Nat} (h : Sl w v cs n size) (hf : Below B w w') (hB : w.heap.size ≤ B) : Sl w' v cs n size := by
  obtain ⟨a, cap, rfl, h1, h2, h2', h3⟩ := h
  refine ⟨a, cap, rfl, h1, h2, h2', ?_⟩
  rcases h3 with h3 | ⟨b, off, rfl, h4, h5⟩
  · exact .inl h3
  · exact .inr ⟨b, off, rfl, Nat.lt_of_lt_of_le h4 hf.size, fun j hj => by rw [hf.cell (by simp; omega)]; exact h5 j hj⟩
/-- The read of element i (size 1), in the walk's spelling. -/
theorem Sl.at1 {w : World} {a : Option Addr} {cap : Nat} {cs : List Value} {n : Nat} (h : Sl w (.slice a n cap) cs n 1) {i : Nat} (hi : i < n) :
    ∃ b off, a = some ⟨b, off, none⟩ ∧ b < w.heap.size ∧ ∃ hc : i < cs.length, w.cell? ⟨b, off + i, none⟩ = some cs[i] := by
  obtain ⟨a', cap', he, h1, h2, h2', h3⟩ := h
  simp only [Value.slice.injEq] at he
  obtain ⟨rfl, _, rfl⟩ := he
  rcases h3 with h3 | ⟨b, off, rfl, h4, h5⟩
  · omega
  · exact ⟨b, off, rfl, h4, by omega, h5 i (by omega)⟩
theorem Sl.le {w : World} {v : Value} {cs : List Value} {n size : Nat} (h : Sl w v cs n size) : n ≤ 9223372036854775807 := by
  obtain ⟨a, cap, rfl, h1, h2, h2', h3⟩ := h
  unfold maxLen at h2'; omega

/-- ints as cells -/
def icells (l : List Int) : List Value := l.map (Value.int .i64)
theorem icells_len (l : List Int) : (icells l).length = l.length := by simp [icells]

def IdxPost (x : Int) (l : List Int) (w : World) (e : Ending) (w' : World) : Prop := (∃ k : Int, e = .returned (.int .i64 k) ∧ (0 ≤ k ↔ x ∈ l)) ∧ w = w'
/-- slices.Index over ints. -/
theorem index_any (v : Value) (l : List Int) (x : Int) (w : World) (h : Sl w v (icells l) l.length 1) :
    Calls Tryz.prog 100 #[v, .int .i64 x] w (IdxPost x l w) := by
  obtain ⟨a, cap, rfl, -⟩ := id h
  have hm := h.le
  go_enter Tryz.func100, Tryz.ntmps100
  go_wp2
  go_loop [8] (fun i => ∃ k : Nat, k ≤ l.length ∧ i = .int .i64 k ∧ x ∉ l.take k) (fun i => l.length - (intOf i).toNat)
  case atStart => exact ⟨0, Nat.zero_le _, rfl, by simp⟩
  case round =>
    obtain ⟨k, hk, rfl, hnot⟩ := hrel
    by_cases hlt : k < l.length
    · obtain ⟨b, off, rfl, -, hc, hcell⟩ := h.at1 hlt
      rw [show (icells l)[k] = .int .i64 l[k] by simp [icells]] at hcell
      by_cases hx : x = l[k]
      · have hxe : (x == l[k]) = true := by simp [hx]
        have hin : x ∈ l := by rw [hx]; exact List.getElem_mem _
        generalize l[k] = y at *
        clear hx hnot h
        go_wp2
        go_ret
        exact ⟨⟨_, rfl, by simp [hin]⟩, rfl⟩
      · have hxe : (x == l[k]) = false := by simp [hx]
        have hnot' : x ∉ l.take (k + 1) := by
          intro hmem
          rw [List.take_succ_eq_append_getElem hlt] at hmem
          rcases List.mem_append.1 hmem with h1 | h1
          · exact hnot h1
          · exact hx (by simpa using h1)
        generalize l[k] = y at *
        clear hx hnot h
        go_wp2
        go_round
        case rel => exact ⟨k + 1, by omega, by go_num, hnot'⟩
        case measure => simp [intOf]; omega
    · rw [List.take_of_length_le (by omega)] at hnot
      clear h
      go_wp2
      go_ret
      exact ⟨⟨-1, rfl, by simp [hnot]⟩, rfl⟩

def IsBool (b : Bool) (w : World) (e : Ending) (w' : World) : Prop := e = .returned (.bool b) ∧ w = w'

theorem contains_any (v : Value) (l : List Int) (x : Int) (w : World) (h : Sl w v (icells l) l.length 1) :
    Calls Tryz.prog 87 #[v, .int .i64 x] w (IsBool (decide (x ∈ l)) w) := by
  by_cases hx : x ∈ l
  · have HX := hidd hx
    go_enter Tryz.func87, Tryz.ntmps87
    go_wp2_with fail
    refine (index_any v l x w h).mono ?_
    rintro e w' ⟨⟨k, rfl, hk⟩, rfl⟩
    have hk0 : 0 ≤ k := hk.2 hx
    clear hk hx
    go_wp2
    go_ret
    exact ⟨by simp [HX.out], rfl⟩
  · have HX := hidd hx
    go_enter Tryz.func87, Tryz.ntmps87
    go_wp2_with fail
    refine (index_any v l x w h).mono ?_
    rintro e w' ⟨⟨k, rfl, hk⟩, rfl⟩
    have hk0 : ¬ 0 ≤ k := fun h0 => hx (hk.1 h0)
    clear hk hx
    go_wp2
    go_ret
    exact ⟨by simp [HX.out]; omega, rfl⟩
end Go.Proofs.YtcpilhembdphoaaGreatDoor
