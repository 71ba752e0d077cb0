/- Trees in memory: where the kids of each node lie. Condition: the cells are there. -/
import Derived.Test.YtbadnmfmncjdjaaGreatDoorTrP
import Derived.Test.YtbadnmfmncjdjaaGreatDoorApp
namespace Go.Proofs.YtbadnmfmncjdjaaGreatDoor
open Go.RowKit

/-- A tree with the slice of each node's kids. -/
abbrev Lt := Tr Value
def ncells (t : Lt) : List Value := [.string t.kind, .string t.data, .bool t.exec, t.v]
def nval (t : Lt) : Value := .agg #[.string t.kind, .string t.data, .bool t.exec, t.v]
def kcells (l : List (ByteArray × Lt)) : List Value := l.flatMap fun x => .string x.1 :: ncells x.2
theorem kcells_len (l : List (ByteArray × Lt)) : (kcells l).length = l.length * 5 := by
  induction l with
  | nil => rfl
  | cons x r ih =>
    have e : kcells (x :: r) = .string x.1 :: .string x.2.kind :: .string x.2.data :: .bool x.2.exec :: x.2.v :: kcells r := rfl
    rw [e]; simp only [List.length_cons, ih]; omega
theorem kcells_app (a b : List (ByteArray × Lt)) : kcells (a ++ b) = kcells a ++ kcells b := by simp [kcells]
theorem kcells_at : ∀ (l : List (ByteArray × Lt)) (i : Nat) (h : i < l.length), (kcells l)[i * 5]? = some (.string l[i].1) ∧ (kcells l)[i * 5 + 1]? = some (.string l[i].2.kind) ∧ (kcells l)[i * 5 + 2]? = some (.string l[i].2.data) ∧ (kcells l)[i * 5 + 3]? = some (.bool l[i].2.exec) ∧ (kcells l)[i * 5 + 4]? = some l[i].2.v
  | x :: l, 0, h => ⟨rfl, rfl, rfl, rfl, rfl⟩
  | x :: l, i + 1, h => by
    have := kcells_at l i (by simpa using h)
    have e : kcells (x :: l) = .string x.1 :: .string x.2.kind :: .string x.2.data :: .bool x.2.exec :: x.2.v :: kcells l := rfl
    rw [e, show (i + 1) * 5 = i * 5 + 1 + 1 + 1 + 1 + 1 by omega, show i * 5 + 1 + 1 + 1 + 1 + 1 + 1 = i * 5 + 1 + 1 + 1 + 1 + 1 + 1 by rfl,
      show i * 5 + 1 + 1 + 1 + 1 + 1 + 2 = i * 5 + 2 + 1 + 1 + 1 + 1 + 1 by omega, show i * 5 + 1 + 1 + 1 + 1 + 1 + 3 = i * 5 + 3 + 1 + 1 + 1 + 1 + 1 by omega, show i * 5 + 1 + 1 + 1 + 1 + 1 + 4 = i * 5 + 4 + 1 + 1 + 1 + 1 + 1 by omega]
    simpa using this

mutual
def Tr.Ok (w : World) : Lt → Prop
  | .mk _ _ _ v ks => Sl w v (kcells ks) ks.length 5 ∧ (∀ x ∈ ks, x.1.size ≤ 140737488351232) ∧ Oks w ks
def Oks (w : World) : List (ByteArray × Lt) → Prop
  | [] => True
  | (_, t) :: r => Tr.Ok w t ∧ Oks w r
end
theorem oks_iff {w : World} : ∀ {ks : List (ByteArray × Lt)}, Oks w ks ↔ ∀ x ∈ ks, Tr.Ok w x.2
  | [] => by simp [Oks]
  | (n, t) :: r => by rw [Oks, oks_iff]; simp
section
variable {w w' : World} {t : Lt}
theorem Tr.Ok.mk' (h1 : Sl w t.v (kcells t.kids) t.kids.length 5) (h2 : ∀ x ∈ t.kids, x.1.size ≤ 140737488351232) (h3 : ∀ x ∈ t.kids, Tr.Ok w x.2) : Tr.Ok w t := by
  cases t; rw [Tr.Ok]; exact ⟨h1, h2, oks_iff.2 h3⟩
theorem Tr.Ok.sl (h : t.Ok w) : Sl w t.v (kcells t.kids) t.kids.length 5 := by cases t; rw [Tr.Ok] at h; exact h.1
theorem Tr.Ok.names (h : t.Ok w) : ∀ x ∈ t.kids, x.1.size ≤ 140737488351232 := by cases t; rw [Tr.Ok] at h; exact h.2.1
theorem Tr.Ok.kid (h : t.Ok w) {x : ByteArray × Lt} (hx : x ∈ t.kids) : x.2.Ok w := by cases t; rw [Tr.Ok] at h; exact oks_iff.1 h.2.2 x hx
theorem Tr.Ok.get (h : t.Ok w) {i : Nat} (hi : i < t.kids.length) : t.kids[i].2.Ok w := h.kid (List.getElem_mem hi)
mutual
theorem ok_ob (hf : Below w.heap.size w w') : ∀ t : Lt, t.Ok w → t.Ok w'
  | .mk _ _ _ _ ks => fun h => by rw [Tr.Ok] at h ⊢; exact ⟨h.1.ob hf (Nat.le_refl _), h.2.1, oks_ob hf ks h.2.2⟩
theorem oks_ob (hf : Below w.heap.size w w') : ∀ ks : List (ByteArray × Lt), Oks w ks → Oks w' ks
  | [] => fun _ => by rw [Oks]; trivial
  | (n, t) :: r => fun h => by rw [Oks] at h ⊢; exact ⟨ok_ob hf t h.1, oks_ob hf r h.2⟩
end
theorem Tr.Ok.ob (h : t.Ok w) (hf : Below w.heap.size w w') : t.Ok w' := ok_ob hf t h
theorem Tr.Ok.alloc (h : t.Ok w) (o : Obj) : t.Ok (w.alloc o) := h.ob ((Below.refl _ _).alloc (Nat.le_refl _) o)
/-- The cells of kid i, in the walk's spelling. -/
theorem Tr.Ok.at5 {a : Option Addr} {n cap : Nat} (h : t.Ok w) (hv : t.v = .slice a n cap) {i : Nat} (hi : i < t.kids.length) :
    ∃ b off, a = some ⟨b, off, none⟩ ∧ b < w.heap.size ∧ w.cell? ⟨b, off + i * 5, none⟩ = some (.string t.kids[i].1) ∧ w.cell? ⟨b, off + i * 5 + 1, none⟩ = some (.string t.kids[i].2.kind) ∧ w.cell? ⟨b, off + i * 5 + 2, none⟩ = some (.string t.kids[i].2.data) ∧ w.cell? ⟨b, off + i * 5 + 3, none⟩ = some (.bool t.kids[i].2.exec) ∧ w.cell? ⟨b, off + i * 5 + 4, none⟩ = some t.kids[i].2.v := by
  obtain ⟨a', cap', he, h1, h2, h2', h3⟩ := h.sl
  rw [hv] at he
  simp only [Value.slice.injEq] at he
  obtain ⟨rfl, rfl, rfl⟩ := he
  rcases h3 with h3 | ⟨b, off, rfl, h4, h5⟩
  · omega
  · have hl := kcells_len t.kids
    obtain ⟨k0, k1, k2, k3, k4⟩ := kcells_at t.kids i hi
    refine ⟨b, off, rfl, h4, ?_, ?_, ?_, ?_, ?_⟩
    · rw [h5 _ (by omega)]; rw [List.getElem?_eq_getElem (by omega)] at k0; exact k0
    · rw [Nat.add_assoc, h5 _ (by omega)]; rw [List.getElem?_eq_getElem (by omega)] at k1; exact k1
    · rw [Nat.add_assoc, h5 _ (by omega)]; rw [List.getElem?_eq_getElem (by omega)] at k2; exact k2
    · rw [Nat.add_assoc, h5 _ (by omega)]; rw [List.getElem?_eq_getElem (by omega)] at k3; exact k3
    · rw [Nat.add_assoc, h5 _ (by omega)]; rw [List.getElem?_eq_getElem (by omega)] at k4; exact k4
theorem Tr.Ok.shape (h : t.Ok w) : ∃ a cap, t.v = .slice a t.kids.length cap := by
  obtain ⟨a, cap, he, -⟩ := h.sl
  exact ⟨a, cap, he⟩
theorem Tr.Ok.le (h : t.Ok w) : t.kids.length ≤ 9223372036854775807 := h.sl.le
end
end Go.Proofs.YtbadnmfmncjdjaaGreatDoor
