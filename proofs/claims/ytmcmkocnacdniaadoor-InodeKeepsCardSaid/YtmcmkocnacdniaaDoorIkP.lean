/- Plain facts for InodeKeeps: the blocks of all inodes, one behind the other. No condition. -/
import Derived.Test.YtmcmkocnacdniaaDoorIn9
namespace Go.Proofs.YtmcmkocnacdniaaDoor
open Go.RowKit

def blsOf (T : Nat → Option Ino) (k : Nat) : List Nat := match T k with
  | some x => x.bl
  | none => []
def flT (T : Nat → Option Ino) : Nat → List Nat
  | 0 => []
  | k + 1 => flT T k ++ blsOf T k
theorem flT_some {T : Nat → Option Ino} {k : Nat} {x : Ino} (h : T k = some x) : flT T (k + 1) = flT T k ++ x.bl := by
  rw [flT, blsOf, h]
theorem flT_none {T : Nat → Option Ino} {k : Nat} (h : T k = none) : flT T (k + 1) = flT T k := by
  rw [flT, blsOf, h, List.append_nil]
theorem mem_flT {T : Nat → Option Ino} {b : Nat} : ∀ {K : Nat}, b ∈ flT T K ↔ ∃ k x, k < K ∧ T k = some x ∧ b ∈ x.bl
  | 0 => by simp [flT]
  | K + 1 => by
    rw [flT, List.mem_append, mem_flT]
    constructor
    · rintro (⟨k, x, h1, h2, h3⟩ | h)
      · exact ⟨k, x, by omega, h2, h3⟩
      · unfold blsOf at h
        split at h
        · rename_i x hx; exact ⟨K, x, by omega, hx, h⟩
        · simp at h
    · rintro ⟨k, x, h1, h2, h3⟩
      by_cases e : k = K
      · subst e; right; unfold blsOf; rw [h2]; exact h3
      · exact .inl ⟨k, x, by omega, h2, h3⟩
theorem TbAt.flN {w : World} {B t p r ps rs m N : Nat} {T : Nat → Option Ino} {us : List Bool} {ls : List ByteArray} (h : TbAt w B t p r ps rs m N T us ls) : ∀ K, (flT T K).Nodup
  | 0 => by simp [flT]
  | K + 1 => by
    cases hT : T K with
    | none => rw [flT_none hT]; exact h.flN K
    | some x =>
      rw [flT_some hT, List.nodup_append]
      refine ⟨h.flN K, (h.ok K x hT).nod, fun a ha b hb e => ?_⟩
      subst e
      obtain ⟨k, y, hk, hy, hm⟩ := mem_flT.1 ha
      exact h.dis k K y x hy hT (by omega) a hm hb
theorem TbAt.flFree {w : World} {B t p r ps rs m N : Nat} {T : Nat → Option Ino} {us : List Bool} {ls : List ByteArray} (h : TbAt w B t p r ps rs m N T us ls) {K : Nat} (hK : ∀ k, K ≤ k → T k = none) : nfree us + (flT T K).length = us.length := by
  have hk : Keeps us.length us [flT T K] := ⟨rfl, by simpa using h.flN K, fun j => by
    rw [h.usd j]
    simp only [List.flatten_cons, List.flatten_nil, List.append_nil]
    rw [mem_flT]
    constructor
    · rintro ⟨k, x, h1, h2⟩
      refine ⟨k, x, ?_, h1, h2⟩
      rcases Nat.lt_or_ge k K with h3 | h3
      · exact h3
      · rw [hK k h3] at h1; cases h1
    · rintro ⟨k, x, -, h1, h2⟩
      exact ⟨k, x, h1, h2⟩⟩
  have := hk.many
  simp only [List.flatten_cons, List.flatten_nil, List.append_nil] at this
  have h2 := usedTo_le us us.length
  unfold nfree
  omega
/-- The row of the blocks that are seen. -/
def seenB (n : Nat) (l : List Nat) : List Value := (List.range n).map fun b => Value.bool (decide (b ∈ l))
theorem seenB_nil (n : Nat) : (List.replicate n false).map Value.bool = seenB n [] := by
  unfold seenB
  apply List.ext_getElem (by simp)
  intro i h1 h2
  simp
theorem seenB_len (n : Nat) (l : List Nat) : (seenB n l).length = n := by simp [seenB]
theorem seenB_at (n : Nat) (l : List Nat) {b : Nat} (h : b < n) : (seenB n l)[b]? = some (.bool (decide (b ∈ l))) := by
  simp [seenB, h]
theorem seenB_set (n : Nat) (l : List Nat) (b : Nat) : (seenB n l).set b (.bool true) = seenB n (l ++ [b]) := by
  apply List.ext_getElem (by simp [seenB])
  intro i h1 h2
  rw [List.getElem_set]
  simp only [seenB, List.getElem_map, List.getElem_range, List.mem_append, List.mem_singleton]
  by_cases e : b = i
  · subst e; simp
  · rw [if_neg e]
    simp [show ¬ i = b from fun h => e h.symm]
end Go.Proofs.YtmcmkocnacdniaaDoor
