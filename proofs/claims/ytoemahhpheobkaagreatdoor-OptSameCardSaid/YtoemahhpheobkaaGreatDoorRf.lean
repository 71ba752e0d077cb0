/- The reference's list of a right tree's nodes, its paths mended; a cell of an owned row set. No condition. · The contract of the reference's nodeError. Condition: the node is there. · The contract of the reference's TreeError. Condition: the tree is there. · The contracts of the reference's ItemsOf, CountOf, SizeOf and FilesOf. Condition: the tree is there. -/
import Derived.Test.YtoemahhpheobkaaGreatDoorTrFU
import Derived.Test.YtoemahhpheobkaaGreatDoorTrD
import Derived.Test.YtoemahhpheobkaaGreatDoorTrC
namespace Go.Proofs.YtoemahhpheobkaaGreatDoor
open Go.RowKit

section
variable {F : Nat → Prop} {w : World} {e : TypeId} {size : Nat} {n : Nat} {xs : List Value}
theorem Ow.put {g off cap j : Nat} (h : Ow F w e size (.slice (some ⟨g, off, none⟩) n cap) n xs) (_hj : j < xs.length) (u : Value) :
    Ow F (w.setCell ⟨g, off + j, none⟩ u) e size (.slice (some ⟨g, off, none⟩) n cap) n (xs.set j u) := by
  rcases h.2 with ⟨he, hn⟩ | ⟨g', off', cap', cur, he, hb, hg, hnc, hm, hsz, ht⟩
  · cases he
  simp only [Value.slice.injEq, Option.some.injEq, Addr.mk.injEq] at he
  obtain ⟨⟨rfl, rfl, -⟩, -, rfl⟩ := he
  have hl := h.1
  have h1 : (w.setCell ⟨g, off + j, none⟩ u).heap[g]? = some (.cells (cur.setIfInBounds (off + j) u) e (0, 0)) := by simp [World.setCell, Array.getElem?_modify, hg]
  refine ⟨by simpa using hl, .inr ⟨g, off, cap, _, rfl, hb, h1, hnc, hm, by simpa using hsz, ?_⟩⟩
  rw [← ht, Array.toList_setIfInBounds, List.drop_set, if_neg (by omega), Nat.add_sub_cancel_left, List.take_set]
theorem Ow.frozenT {g off cap : Nat} (h : Ow F w e size (.slice (some ⟨g, off, none⟩) n cap) n xs) (i : Nat) : w.frozen? ⟨g, i, none⟩ = false := by
  rcases h.2 with ⟨he, _⟩ | ⟨g', off', cap', cur, he, _, hg, _⟩
  · cases he
  · simp only [Value.slice.injEq, Option.some.injEq, Addr.mk.injEq] at he
    obtain ⟨⟨rfl, _⟩, _⟩ := he
    simp [World.frozen?, hg]
end

variable {α : Type}
def fixP (p : ByteArray) : ByteArray := if p.toList == [] then ⟨#[47]⟩ else p
def It.fix (x : It α) : It α := ⟨fixP x.path, x.deep, x.n⟩
/-- Empty, or from a stroke on. -/
def Stroke (p : ByteArray) : Prop := p.data.toList = [] ∨ ∃ r, p.data.toList = 47 :: r
theorem stroke_sub {p n : ByteArray} (h : Stroke p) : Stroke (sub p n) := by
  unfold sub
  have e : (p ++ ⟨#[47]⟩ ++ n).data.toList = p.data.toList ++ [47] ++ n.data.toList := by simp
  rcases h with h | ⟨r, h⟩
  · exact .inr ⟨n.data.toList, by rw [e, h]; rfl⟩
  · exact .inr ⟨r ++ [47] ++ n.data.toList, by rw [e, h]; rfl⟩
mutual
theorem pre_stroke (p : ByteArray) (d : Nat) (hp : Stroke p) : ∀ t : Tr α, ∀ x ∈ pre p d t, Stroke x.path
  | .mk k da e v ks => fun x hx => by
    rw [pre] at hx
    rcases List.mem_cons.1 hx with rfl | hx
    · exact hp
    · exact pres_stroke p (d + 1) hp ks x hx
theorem pres_stroke (p : ByteArray) (d : Nat) (hp : Stroke p) : ∀ ks : List (ByteArray × Tr α), ∀ x ∈ pres p d ks, Stroke x.path
  | [] => fun x hx => by simp [pres] at hx
  | (n, t) :: r => fun x hx => by
    rw [pres] at hx
    rcases List.mem_append.1 hx with hx | hx
    · exact pre_stroke (sub p n) d (stroke_sub hp) t x hx
    · exact pres_stroke p d hp r x hx
end
theorem path_fix {p : ByteArray} (h : Stroke p) : pathOf p = fixP p := by
  unfold pathOf fixP Lib.maxS
  rw [Lib.toList_data]
  rcases h with h | ⟨r, h⟩
  · rw [h]; simp
  · rw [h]
    rw [if_neg (by simp), if_neg (by simp)]
theorem fileL_fix (l : List (It α)) (h : ∀ x ∈ l, Stroke x.path) : fileL l = ((l.map It.fix).filter fun x => decide (x.n.kind = kFile)).map It.path := by
  induction l with
  | nil => rfl
  | cons x r ih =>
    have ih := ih (fun y hy => h y (List.mem_cons_of_mem _ hy))
    unfold fileL at ih ⊢
    rw [List.map_cons, List.filter_cons, List.filter_cons]
    have e : (It.fix x).n.kind = x.n.kind := rfl
    rw [e]
    split
    · rw [List.map_cons, List.map_cons, ih, path_fix (h x (List.mem_cons_self ..))]; rfl
    · exact ih
theorem fileSz_fix (l : List (It α)) : fileSz (l.map It.fix) = fileSz l := by
  unfold fileSz; rw [List.map_map]; rfl
/-- Items of a right tree. -/
def itemsOf (t : Tr α) : List (It α) := (pre ⟨#[]⟩ 0 t).map It.fix
theorem itemsOf_len (t : Tr α) : (itemsOf t).length = t.sz := by unfold itemsOf; rw [List.length_map, pre_len]
/-- A path set in a row of items. -/
theorem itcells_set (a b : List (It Value)) (x : It Value) (p : ByteArray) : (itcells (a ++ x :: b)).set (a.length * 6) (.string p) = itcells (a ++ ⟨p, x.deep, x.n⟩ :: b) := by
  have hl := itcells_len a
  have e1 : itcells (a ++ x :: b) = itcells a ++ (tcell x ++ itcells b) := by simp [itcells]
  have e2 : itcells (a ++ (⟨p, x.deep, x.n⟩ : It Value) :: b) = itcells a ++ (tcell ⟨p, x.deep, x.n⟩ ++ itcells b) := by simp [itcells]
  rw [e1, e2, ← hl, List.set_append_right _ _ (Nat.le_refl _), Nat.sub_self]
  rfl
/-- The head of what a scan still has to look at. -/
theorem scan_at {l : List (It α)} {i : Nat} (hi : i < l.length) (h : scan 0 (l.take i) = 0) :
    scan 0 l = (if 8 < l[i].deep then 9 else if 200 ≤ i then 8 else if 0 < ownE l[i].n then ownE l[i].n else scan (i + 1) (l.drop (i + 1))) ∧
    (¬ 8 < l[i].deep → ¬ 200 ≤ i → ¬ 0 < ownE l[i].n → scan 0 (l.take (i + 1)) = 0) := by
  have e : l = l.take i ++ l[i] :: l.drop (i + 1) := by rw [List.getElem_cons_drop, List.take_append_drop]
  have hl : (l.take i).length = i := by rw [List.length_take]; omega
  constructor
  · have := scan_app (l.take i) (l[i] :: l.drop (i + 1)) 0
    rw [← e, if_pos h, Nat.zero_add, hl] at this
    rw [this, scan]
  · intro h1 h2 h3
    rw [List.take_succ_eq_append_getElem hi, scan_app, if_pos h, Nat.zero_add, hl, scan, if_neg h1, if_neg h2, if_neg h3]; rfl
end Go.Proofs.YtoemahhpheobkaaGreatDoor

namespace Go.Proofs.YtoemahhpheobkaaGreatDoor
open Go.RowKit Go.Shelf
end Go.Proofs.YtoemahhpheobkaaGreatDoor

namespace Go.Proofs.YtoemahhpheobkaaGreatDoor
open Go.RowKit Go.Shelf
end Go.Proofs.YtoemahhpheobkaaGreatDoor

namespace Go.Proofs.YtoemahhpheobkaaGreatDoor
open Go.RowKit Go.Shelf

mutual
theorem pre_ok {w : World} (p : ByteArray) (d : Nat) : ∀ t : Lt, t.Ok w → ∀ x ∈ pre p d t, x.n.Ok w
  | .mk k da e v ks => fun h x hx => by
    rw [pre] at hx
    rcases List.mem_cons.1 hx with rfl | hx
    · exact h
    · rw [Tr.Ok] at h; exact pres_ok p (d + 1) ks h.2.2 x hx
theorem pres_ok {w : World} (p : ByteArray) (d : Nat) : ∀ ks : List (ByteArray × Lt), Oks w ks → ∀ x ∈ pres p d ks, x.n.Ok w
  | [] => fun _ x hx => by simp [pres] at hx
  | (n, t) :: r => fun h x hx => by
    rw [pres] at hx
    rw [Oks] at h
    rcases List.mem_append.1 hx with hx | hx
    · exact pre_ok (sub p n) d t h.1 x hx
    · exact pres_ok p d r h.2 x hx
end
/-- Items, the first i of them mended. -/
def mended {α : Type} (L : List (It α)) (i : Nat) : List (It α) := (L.take i).map It.fix ++ L.drop i
theorem mended_len {α : Type} (L : List (It α)) (i : Nat) : (mended L i).length = L.length := by
  unfold mended; rw [List.length_append, List.length_map, List.length_take, List.length_drop]; omega
theorem mended_at {α : Type} {L : List (It α)} {i : Nat} (h : i < L.length) : mended L i = (L.take i).map It.fix ++ L[i] :: L.drop (i + 1) := by
  unfold mended; rw [List.getElem_cons_drop]
theorem mended_succ {α : Type} {L : List (It α)} {i : Nat} (h : i < L.length) : mended L (i + 1) = (L.take i).map It.fix ++ It.fix L[i] :: L.drop (i + 1) := by
  unfold mended; rw [List.take_succ_eq_append_getElem h, List.map_append, List.append_assoc]; rfl
theorem mended_get {α : Type} {L : List (It α)} {i : Nat} (h : i < L.length) (h' : i < (mended L i).length) : (mended L i)[i] = L[i] := by
  have e := mended_at h
  have hl : ((L.take i).map It.fix).length = i := by rw [List.length_map, List.length_take]; omega
  have : (mended L i)[i]? = some L[i] := by
    rw [e, List.getElem?_append_right (by omega), hl, Nat.sub_self]; rfl
  rw [List.getElem?_eq_getElem h'] at this
  exact Option.some.inj this
theorem fixP_nil {p : ByteArray} (h : (p.toList == []) = true) : fixP p = ⟨#[47]⟩ := if_pos h
theorem fixP_cons {p : ByteArray} (h : (p.toList == []) = false) : fixP p = p := if_neg (by rw [h]; decide)

end Go.Proofs.YtoemahhpheobkaaGreatDoor
