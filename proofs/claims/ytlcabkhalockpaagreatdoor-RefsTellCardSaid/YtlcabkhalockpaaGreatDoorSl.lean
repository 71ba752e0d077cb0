/- Slices that are only read: what a slice's elements are; slices.Index, Contains over ints. Condition: the slice's cells are there. -/
import Derived.Test.YtlcabkhalockpaaGreatDoorEnv
namespace Go.Proofs.YtlcabkhalockpaaGreatDoor
open Go.RowKit

/-- v is a slice of n elements whose cells are cs (size cells an element). -/
def Sl (w : World) (v : Value) (cs : List Value) (n size : Nat) : Prop :=
  ∃ a cap, v = .slice a n cap ∧ cs.length = n * size ∧ n ≤ cap ∧ cap ≤ maxLen ∧ (n = 0 ∨ ∃ b off, a = some ⟨b, off, none⟩ ∧ b < w.heap.size ∧ ∀ j (h : j < cs.length), w.cell? ⟨b, off + j, none⟩ = some cs[j])

theorem Sl.nil (w : World) (size : Nat) : Sl w (.slice none 0 0) [] 0 size := ⟨none, 0, rfl, by simp, Nat.le_refl _, by unfold maxLen; omega, .inl rfl⟩
theorem Sl.of_owns {w : World} {base : Nat} {e : TypeId} {size : Nat} {v : Value} {n : Nat} {xs : List Value} (h : w.ownsRow base e size v n xs) : Sl w v xs n size := by
  rcases h.2 with ⟨rfl, rfl⟩ | ⟨g, cap, cur, rfl, hg, hgg, hn, hm, hcs, ht⟩
  · exact ⟨_, _, rfl, h.1, Nat.le_refl _, by unfold maxLen; omega, .inl rfl⟩
  · refine ⟨_, _, rfl, h.1, hn, hm, .inr ⟨g, 0, rfl, (Array.getElem?_eq_some_iff.1 hgg).1, fun j hj => ?_⟩⟩
    have hh := h.cells (g := g) rfl j xs[j] (by simp [hj])
    have e : (⟨g, 0, none⟩ : Addr).add j = ⟨g, 0 + j, none⟩ := by unfold Addr.add; split <;> simp_all
    rw [e] at hh; exact hh
theorem Sl.fr {w w' : World} {v : Value} {cs : List Value} {n size : Nat} {S : Nat → Prop} (h : Sl w v cs n size) (hf : Fr S w w') (hS : ∀ k, v.ownBlock = some k → ¬ S k) : Sl w' v cs n size := by
  obtain ⟨a, cap, rfl, h1, h2, h2', h3⟩ := h
  refine ⟨a, cap, rfl, h1, h2, h2', ?_⟩
  rcases h3 with h3 | ⟨b, off, rfl, h4, h5⟩
  · exact .inl h3
  · exact .inr ⟨b, off, rfl, Nat.lt_of_lt_of_le h4 hf.size, fun j hj => hf.cell (h5 j hj) (hS b rfl)⟩
theorem Sl.ob {w w' : World} {v : Value} {cs : List Value} {n size B : Nat} (h : Sl w v cs n size) (hf : Below B w w') (hB : w.heap.size ≤ B) : Sl w' v cs n size := by
  obtain ⟨a, cap, rfl, h1, h2, h2', h3⟩ := h
  refine ⟨a, cap, rfl, h1, h2, h2', ?_⟩
  rcases h3 with h3 | ⟨b, off, rfl, h4, h5⟩
  · exact .inl h3
  · exact .inr ⟨b, off, rfl, Nat.lt_of_lt_of_le h4 hf.size, fun j hj => by rw [hf.cell (by simp; omega)]; exact h5 j hj⟩
/-- The read of element i (size 1), in the walk's spelling. -/
theorem Sl.at1 {w : World} {a : Option Addr} {cap : Nat} {cs : List Value} {n : Nat} (h : Sl w (.slice a n cap) cs n 1) {i : Nat} (hi : i < n) :
    ∃ b off, a = some ⟨b, off, none⟩ ∧ b < w.heap.size ∧ ∃ hc : i < cs.length, w.cell? ⟨b, off + i, none⟩ = some cs[i] := by
  obtain ⟨a', cap', he, h1, h2, h2', h3⟩ := h
  simp only [Value.slice.injEq] at he
  obtain ⟨rfl, _, rfl⟩ := he
  rcases h3 with h3 | ⟨b, off, rfl, h4, h5⟩
  · omega
  · exact ⟨b, off, rfl, h4, by omega, h5 i (by omega)⟩
theorem Sl.le {w : World} {v : Value} {cs : List Value} {n size : Nat} (h : Sl w v cs n size) : n ≤ 9223372036854775807 := by
  obtain ⟨a, cap, rfl, h1, h2, h2', h3⟩ := h
  unfold maxLen at h2'; omega

/-- ints as cells -/
def icells (l : List Int) : List Value := l.map (Value.int .i64)
theorem icells_len (l : List Int) : (icells l).length = l.length := by simp [icells]

end Go.Proofs.YtlcabkhalockpaaGreatDoor
