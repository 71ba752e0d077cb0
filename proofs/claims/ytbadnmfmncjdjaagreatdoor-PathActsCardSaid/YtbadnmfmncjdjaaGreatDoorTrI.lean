/- Lists of a tree's nodes in memory. Condition: the cells are there. -/
import Derived.Test.YtbadnmfmncjdjaaGreatDoorTrA
import Derived.WalkLawsBesides
import Derived.Lib.Hide
namespace Go.Proofs.YtbadnmfmncjdjaaGreatDoor
open Go.RowKit

section
variable {w w' : World} {v : Value} {a : Option Addr} {n cap size : Nat} {cs : List Value}
theorem Sl.takeN (h : Sl w (.slice a n cap) cs n size) {k : Nat} (hk : k ≤ n) : Sl w (.slice a k cap) (cs.take (k * size)) k size := by
  obtain ⟨a', cap', he, h1, h2, h2', h3⟩ := h
  simp only [Value.slice.injEq] at he
  obtain ⟨rfl, _, rfl⟩ := he
  have hks : k * size ≤ n * size := Nat.mul_le_mul_right _ hk
  refine ⟨a, cap, rfl, by rw [List.length_take]; omega, by omega, h2', ?_⟩
  rcases h3 with h3 | ⟨b, off, rfl, h4, h5⟩
  · exact .inl (by omega)
  · refine .inr ⟨b, off, rfl, h4, fun j hj => ?_⟩
    rw [List.length_take] at hj
    rw [h5 j (by omega), List.getElem_take]
theorem Sl.dropN {b off : Nat} (h : Sl w (.slice (some ⟨b, off, none⟩) n cap) cs n size) {k : Nat} (hk : k ≤ n) : Sl w (.slice (some ⟨b, off + k * size, none⟩) (n - k) (cap - k)) (cs.drop (k * size)) (n - k) size := by
  obtain ⟨a', cap', he, h1, h2, h2', h3⟩ := h
  simp only [Value.slice.injEq] at he
  obtain ⟨rfl, _, rfl⟩ := he
  have hks : k * size ≤ n * size := Nat.mul_le_mul_right _ hk
  refine ⟨_, _, rfl, by rw [List.length_drop, h1, Nat.sub_mul], by omega, by omega, ?_⟩
  rcases h3 with h3 | ⟨b', off', he, h4, h5⟩
  · exact .inl (by omega)
  · simp only [Option.some.injEq, Addr.mk.injEq] at he
    obtain ⟨rfl, rfl, _⟩ := he
    refine .inr ⟨b, off + k * size, rfl, h4, fun j hj => ?_⟩
    rw [List.length_drop] at hj
    rw [Nat.add_assoc, h5 (k * size + j) (by omega), List.getElem_drop]
theorem Sl.new (w : World) (cs : List Value) (T : TypeId) (size : Nat) (hl : cs.length = size) : Sl (w.alloc (.cells cs.toArray T)) (.slice (some ⟨w.heap.size, 0, none⟩) 1 1) cs 1 size :=
  ⟨_, _, rfl, by omega, Nat.le_refl _, by unfold maxLen; omega, .inr ⟨_, 0, rfl, by simp, fun j hj => by rw [Nat.zero_add]; exact (Blk.new w cs T).cell (List.getElem?_eq_getElem hj)⟩⟩
theorem Sl.drew (h : Sl w v cs n size) : Sl w.drew v cs n size := h
theorem Sl.empty (w : World) (a : Option Addr) (cap size : Nat) (hm : cap ≤ maxLen) : Sl w (.slice a 0 cap) [] 0 size := ⟨a, cap, rfl, by simp, Nat.zero_le _, hm, .inl rfl⟩
end

def tcell (x : It Value) : List Value := .string x.path :: .int .i64 (x.deep : Int) :: ncells x.n
def itcells (l : List (It Value)) : List Value := l.flatMap tcell
theorem itcells_len (l : List (It Value)) : (itcells l).length = l.length * 6 := by
  induction l with
  | nil => rfl
  | cons x r ih =>
    have e : itcells (x :: r) = .string x.path :: .int .i64 (x.deep : Int) :: .string x.n.kind :: .string x.n.data :: .bool x.n.exec :: x.n.v :: itcells r := rfl
    rw [e]; simp only [List.length_cons, ih]; omega
theorem itcells_app (a b : List (It Value)) : itcells (a ++ b) = itcells a ++ itcells b := by simp [itcells]
theorem itcells_take (l : List (It Value)) (k : Nat) : (itcells l).take (k * 6) = itcells (l.take k) := by
  by_cases h : k ≤ l.length
  · have e := List.take_append_drop k l
    conv => lhs; rw [← e]
    rw [itcells_app, List.take_append_of_le_length (by rw [itcells_len, List.length_take]; omega), List.take_of_length_le (by rw [itcells_len, List.length_take]; omega)]
  · rw [List.take_of_length_le (by rw [itcells_len]; omega), List.take_of_length_le (by omega)]
theorem itcells_drop (l : List (It Value)) (k : Nat) : (itcells l).drop (k * 6) = itcells (l.drop k) := by
  by_cases h : k ≤ l.length
  · have e := List.take_append_drop k l
    conv => lhs; rw [← e]
    rw [itcells_app]
    have hl : (itcells (l.take k)).length = k * 6 := by rw [itcells_len, List.length_take]; omega
    rw [← hl, List.drop_left]
  · rw [List.drop_of_length_le (by rw [itcells_len]; omega), List.drop_of_length_le (by omega)]; rfl
theorem itcells_at : ∀ (l : List (It Value)) (i : Nat) (h : i < l.length), (itcells l)[i * 6]? = some (.string l[i].path) ∧ (itcells l)[i * 6 + 1]? = some (.int .i64 (l[i].deep : Int)) ∧ (itcells l)[i * 6 + 2]? = some (.string l[i].n.kind) ∧ (itcells l)[i * 6 + 3]? = some (.string l[i].n.data) ∧ (itcells l)[i * 6 + 4]? = some (.bool l[i].n.exec) ∧ (itcells l)[i * 6 + 5]? = some l[i].n.v
  | x :: l, 0, h => ⟨rfl, rfl, rfl, rfl, rfl, rfl⟩
  | x :: l, i + 1, h => by
    have := itcells_at l i (by simpa using h)
    have e : itcells (x :: l) = .string x.path :: .int .i64 (x.deep : Int) :: .string x.n.kind :: .string x.n.data :: .bool x.n.exec :: x.n.v :: itcells l := rfl
    rw [e, show (i + 1) * 6 = i * 6 + 1 + 1 + 1 + 1 + 1 + 1 by omega, show i * 6 + 1 + 1 + 1 + 1 + 1 + 1 + 2 = i * 6 + 2 + 1 + 1 + 1 + 1 + 1 + 1 by omega,
      show i * 6 + 1 + 1 + 1 + 1 + 1 + 1 + 3 = i * 6 + 3 + 1 + 1 + 1 + 1 + 1 + 1 by omega, show i * 6 + 1 + 1 + 1 + 1 + 1 + 1 + 4 = i * 6 + 4 + 1 + 1 + 1 + 1 + 1 + 1 by omega, show i * 6 + 1 + 1 + 1 + 1 + 1 + 1 + 5 = i * 6 + 5 + 1 + 1 + 1 + 1 + 1 + 1 by omega]
    simpa using this

/-- Nodes that are there, their paths not too long. -/
structure ItOk (w : World) (D : Nat) (x : It Value) : Prop where
  path : x.path.size ≤ x.deep * 140737488351233
  deep : x.deep ≤ D + 1
  ok : x.n.Ok w
theorem ItOk.ob {w w' : World} {D : Nat} {x : It Value} (h : ItOk w D x) (hf : Below w.heap.size w w') : ItOk w' D x := ⟨h.path, h.deep, h.ok.ob hf⟩
theorem ItOk.kid {w : World} {D m : Nat} {x : It Value} (h : ItOk w D x) (hd : x.deep ≤ D) : ∀ y ∈ kidsOf m x, ItOk w D y := by
  intro y hy
  unfold kidsOf at hy
  obtain ⟨k, hk, rfl⟩ := List.mem_map.1 hy
  have hk' := List.mem_of_mem_take hk
  refine ⟨?_, by simp; omega, h.ok.kid hk'⟩
  have h1 := h.path
  have h2 := h.ok.names k hk'
  have e : (sub x.path k.1).size = x.path.size + 1 + k.1.size := by
    unfold sub; rw [ByteArray.size_append, ByteArray.size_append]; rfl
  simp only
  rw [e, Nat.add_mul]
  omega
theorem one_itcells (l : List (It Value)) (w : World) (D : Nat) (h : ∀ x ∈ l, ItOk w D x) : ∀ u ∈ itcells l, u.oneCell' = true := by
  intro u hu
  unfold itcells at hu
  obtain ⟨x, hx, hu⟩ := List.mem_flatMap.1 hu
  obtain ⟨a, cap, hv⟩ := (h x hx).ok.shape
  simp only [tcell, ncells, List.mem_cons, List.not_mem_nil, or_false] at hu
  rcases hu with rfl | rfl | rfl | rfl | rfl | rfl
  · rfl
  · rfl
  · rfl
  · rfl
  · rfl
  · rw [hv]; rfl
/-- The cells of item i, in the walk's spelling. -/
theorem sl_at6 {w : World} {a : Option Addr} {n cap : Nat} {l : List (It Value)} (h : Sl w (.slice a n cap) (itcells l) n 6) {i : Nat} (hi : i < l.length) :
    ∃ b off, a = some ⟨b, off, none⟩ ∧ b < w.heap.size ∧ w.cell? ⟨b, off + i * 6, none⟩ = some (.string l[i].path) ∧ w.cell? ⟨b, off + i * 6 + 1, none⟩ = some (.int .i64 (l[i].deep : Int)) ∧ w.cell? ⟨b, off + i * 6 + 2, none⟩ = some (.string l[i].n.kind) ∧ w.cell? ⟨b, off + i * 6 + 3, none⟩ = some (.string l[i].n.data) ∧ w.cell? ⟨b, off + i * 6 + 4, none⟩ = some (.bool l[i].n.exec) ∧ w.cell? ⟨b, off + i * 6 + 5, none⟩ = some l[i].n.v := by
  obtain ⟨a', cap', he, h1, h2, h2', h3⟩ := h
  simp only [Value.slice.injEq] at he
  obtain ⟨rfl, _, rfl⟩ := he
  have hl := itcells_len l
  rcases h3 with h3 | ⟨b, off, rfl, h4, h5⟩
  · omega
  · obtain ⟨k0, k1, k2, k3, k4, k5⟩ := itcells_at l i hi
    refine ⟨b, off, rfl, h4, ?_, ?_, ?_, ?_, ?_, ?_⟩
    · rw [h5 _ (by omega)]; rw [List.getElem?_eq_getElem (by omega)] at k0; exact k0
    · rw [Nat.add_assoc, h5 _ (by omega)]; rw [List.getElem?_eq_getElem (by omega)] at k1; exact k1
    · rw [Nat.add_assoc, h5 _ (by omega)]; rw [List.getElem?_eq_getElem (by omega)] at k2; exact k2
    · rw [Nat.add_assoc, h5 _ (by omega)]; rw [List.getElem?_eq_getElem (by omega)] at k3; exact k3
    · rw [Nat.add_assoc, h5 _ (by omega)]; rw [List.getElem?_eq_getElem (by omega)] at k4; exact k4
    · rw [Nat.add_assoc, h5 _ (by omega)]; rw [List.getElem?_eq_getElem (by omega)] at k5; exact k5
theorem kidsOf_len {α : Type} (m : Nat) (x : It α) : (kidsOf m x).length = min m x.n.kids.length := by simp [kidsOf]
theorem kidsOf_succ {α : Type} {k : Nat} {x : It α} (h : k < x.n.kids.length) : kidsOf (k + 1) x = kidsOf k x ++ [⟨sub x.path x.n.kids[k].1, x.deep + 1, x.n.kids[k].2⟩] := by
  unfold kidsOf; rw [List.take_succ_eq_append_getElem h, List.map_append]; rfl
theorem kidsOf_all {α : Type} {m k : Nat} {x : It α} (h : k = min m x.n.kids.length) : kidsOf k x = kidsOf m x := by
  unfold kidsOf
  by_cases hk : m ≤ x.n.kids.length
  · rw [show k = m by omega]
  · rw [show k = x.n.kids.length by omega, List.take_of_length_le (Nat.le_refl _), List.take_of_length_le (by omega)]
end Go.Proofs.YtbadnmfmncjdjaaGreatDoor
