/- The contract of Rot of a disk: a bit is turned. Condition: the receiver is a disk that New gave, its texts are of a block's size. -/
import Derived.Test.YtoemahhpheobkaaGreatDoorDk2
import Derived.Test.YtoemahhpheobkaaGreatDoorBw
import Derived.Deep.RegionWith
import Derived.Deep.DeepCutAuto
import Derived.Deep.CutRange
namespace Go.Proofs.YtoemahhpheobkaaGreatDoor
open Go.RowKit Go.Shelf

/-- All texts are of a block's size. -/
structure Sz (ls : List ByteArray) (ws : List (Nat × ByteArray)) : Prop where
  l : ∀ i (h : i < ls.length), ls[i].size = 16
  w : ∀ i (h : i < ws.length), ws[i].2.size = 16

theorem Ow.at {F : Nat → Prop} {w : World} {e : TypeId} {size : Nat} {g off n cap : Nat} {xs : List Value} (h : Ow F w e size (.slice (some ⟨g, off, none⟩) n cap) n xs) (_hn : 0 < n) :
    F g ∧ ∃ cur, w.heap[g]? = some (.cells cur e (0, 0)) ∧ n ≤ cap ∧ cap ≤ maxLen ∧ off + cap * size ≤ cur.size ∧ (cur.toList.drop off).take (n * size) = xs := by
  rcases h.2 with ⟨he, hn0⟩ | ⟨g', off', cap', cur, he, hb, rest⟩
  · cases he
  · simp only [Value.slice.injEq, Option.some.injEq, Addr.mk.injEq] at he
    obtain ⟨⟨rfl, rfl, _⟩, _, rfl⟩ := he
    exact ⟨hb, cur, rest⟩
theorem Ow.frozen {F : Nat → Prop} {w : World} {e : TypeId} {size : Nat} {g off n cap : Nat} {xs : List Value} (h : Ow F w e size (.slice (some ⟨g, off, none⟩) n cap) n xs) (hn : 0 < n) (j : Nat) : w.frozen? ⟨g, j, none⟩ = false := by
  obtain ⟨_, cur, hg, _⟩ := h.at hn
  simp [World.frozen?, hg]
/-- A store into a slice that is owned. -/
theorem Ow.setAt {F : Nat → Prop} {w : World} {e : TypeId} {size : Nat} {g off n cap : Nat} {xs : List Value} (h : Ow F w e size (.slice (some ⟨g, off, none⟩) n cap) n xs) (hn : 0 < n) {j : Nat} (hj : j < n * size) (u : Value) :
    Ow F (w.setCell ⟨g, off + j, none⟩ u) e size (.slice (some ⟨g, off, none⟩) n cap) n (xs.set j u) := by
  obtain ⟨hF, cur, hg, h1, h2, h3, h4⟩ := h.at hn
  refine ⟨by rw [List.length_set]; exact h.1, .inr ⟨g, off, cap, cur.setIfInBounds (off + j) u, rfl, hF, by simp [World.setCell, Array.getElem?_modify, hg], h1, h2, by simpa using h3, ?_⟩⟩
  have hle : n * size ≤ cap * size := Nat.mul_le_mul_right _ h1
  rw [← h4]
  apply List.ext_getElem?
  intro i
  simp only [Array.toList_setIfInBounds, List.getElem?_take, List.getElem?_drop, List.getElem?_set, List.length_take, List.length_drop, Array.length_toList]
  by_cases hi : i < n * size
  · by_cases e : j = i
    · subst e
      have h5 : off + j < cur.size := by omega
      have h6 : j < n * size ∧ j < cur.size - off := by omega
      simp only [hi, if_true, h5, Nat.lt_min]
      rw [if_pos ⟨trivial, h6.2⟩]
    · have e' : ¬ off + j = off + i := by omega
      simp [hi, e]
  · have e' : ¬ j = i := by omega
    simp [hi, e']

/-- What waits behind i rounds of Rot. -/
def turnTo (k bit : Nat) (ws : List (Nat × ByteArray)) (i : Nat) : List (Nat × ByteArray) := turnW k bit (ws.take i) ++ ws.drop i
theorem turnTo_at {k bit : Nat} {ws : List (Nat × ByteArray)} {i : Nat} (h : i < ws.length) : turnTo k bit ws i = turnW k bit (ws.take i) ++ ws[i] :: ws.drop (i + 1) := by
  unfold turnTo; rw [List.drop_eq_getElem_cons h]
theorem turnTo_succ {k bit : Nat} {ws : List (Nat × ByteArray)} {i : Nat} (h : i < ws.length) : turnTo k bit ws (i + 1) = turnW k bit (ws.take i) ++ (if ws[i].1 = k then (ws[i].1, turn ws[i].2 bit) else ws[i]) :: ws.drop (i + 1) := by
  unfold turnTo turnW
  rw [List.take_succ_eq_append_getElem h, List.map_append]
  simp only [List.map_cons, List.map_nil, List.append_assoc, List.cons_append, List.nil_append]
theorem turnTo_len (k bit : Nat) (ws : List (Nat × ByteArray)) (i : Nat) : (turnTo k bit ws i).length = ws.length := by
  unfold turnTo turnW; simp; omega
theorem turnTo_miss {k bit : Nat} {ws : List (Nat × ByteArray)} {i : Nat} (h : i < ws.length) (hk : ws[i].1 ≠ k) : turnTo k bit ws (i + 1) = turnTo k bit ws i := by
  rw [turnTo_succ h, if_neg hk, turnTo_at h]
theorem turnTo_hit {k bit : Nat} {ws : List (Nat × ByteArray)} {i : Nat} (h : i < ws.length) (hk : ws[i].1 = k) : wcells (turnTo k bit ws (i + 1)) = (wcells (turnTo k bit ws i)).set (i * 2 + 1) (.string (turn ws[i].2 bit)) := by
  rw [turnTo_succ h, if_pos hk, turnTo_at h, wcells_append, wcells_append]
  have hl : (wcells (turnW k bit (ws.take i))).length = i * 2 := by rw [wcells_len]; unfold turnW; simp; omega
  rw [List.set_append_right _ _ (by omega), hl, show i * 2 + 1 - i * 2 = 1 by omega]
  rfl
theorem turnTo_cell {k bit : Nat} {ws : List (Nat × ByteArray)} {i : Nat} (h : i < ws.length) : (wcells (turnTo k bit ws i))[i * 2]? = some (.int .i64 (ws[i].1 : Int)) ∧ (wcells (turnTo k bit ws i))[i * 2 + 1]? = some (.string ws[i].2) := by
  have hi : i < (turnTo k bit ws i).length := by rw [turnTo_len]; exact h
  have e : (turnTo k bit ws i)[i] = ws[i] := by
    have hl : (turnW k bit (ws.take i)).length = i := by unfold turnW; simp; omega
    simp only [turnTo_at h]
    rw [List.getElem_append_right (by omega)]
    simp [hl]
  have := wcells_at (turnTo k bit ws i) i hi
  rwa [e] at this

def RotPost (k bit : Nat) (p r : Nat) (v : Value) (ls : List ByteArray) (ws : List (Nat × ByteArray)) (w : World) (e : Ending) (w' : World) : Prop :=
  e = .returned .nilIface ∧ DkAt w' p r v (ls.set k (turn (ls.getD k ByteArray.empty) bit)) (turnW k bit ws) ∧ Fr (dkS p r v) w w'

end Go.Proofs.YtoemahhpheobkaaGreatDoor
