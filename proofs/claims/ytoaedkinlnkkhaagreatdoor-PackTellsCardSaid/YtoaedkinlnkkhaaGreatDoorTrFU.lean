/- The contract of tree.each, over any function value that keeps a promise. Condition: as stated. · The contracts of tree.Each, over the function values of Count, Size and Files. Condition: as stated. · The contracts of tree.Count, Size and Files. Condition: the tree is there, the variables read as listed. · The contract of tree.Files. Condition: the tree is there, the variables read as listed. · Sums over a tree's nodes, in plain words. No condition. -/
import Derived.Test.YtoaedkinlnkkhaaGreatDoorTrC
import Derived.Lib.MinMaxS
import Derived.Test.YtoaedkinlnkkhaaGreatDoorTxt
namespace Go.Proofs.YtoaedkinlnkkhaaGreatDoor
open Go.RowKit Go.Shelf
end Go.Proofs.YtoaedkinlnkkhaaGreatDoor

namespace Go.Proofs.YtoaedkinlnkkhaaGreatDoor
open Go.RowKit Go.Shelf

def pathOf (p : ByteArray) : ByteArray := Lib.maxS p ⟨#[47]⟩
def listed {α : Type} (t : Tr α) : List (It α) := if treeE t = 0 then pre ⟨#[]⟩ 0 t else []
end Go.Proofs.YtoaedkinlnkkhaaGreatDoor

namespace Go.Proofs.YtoaedkinlnkkhaaGreatDoor
open Go.RowKit Go.Shelf
end Go.Proofs.YtoaedkinlnkkhaaGreatDoor

namespace Go.Proofs.YtoaedkinlnkkhaaGreatDoor
open Go.RowKit Go.Shelf
end Go.Proofs.YtoaedkinlnkkhaaGreatDoor

namespace Go.Proofs.YtoaedkinlnkkhaaGreatDoor
open Go.RowKit Go.Shelf
section
variable {α : Type}
theorem scan_zero_app {l r : List (It α)} {c : Nat} (h : scan c (l ++ r) = 0) : scan c l = 0 ∧ scan (c + l.length) r = 0 := by
  rw [scan_app] at h
  by_cases h0 : scan c l = 0
  · rw [if_pos h0] at h; exact ⟨h0, h⟩
  · rw [if_neg h0] at h; exact absurd h h0
theorem scan_zero_cons {x : It α} {r : List (It α)} {c : Nat} (h : scan c (x :: r) = 0) : x.deep ≤ 8 ∧ c < 200 ∧ ownE x.n = 0 ∧ scan (c + 1) r = 0 := by
  rw [scan] at h
  split at h; omega
  split at h; omega
  split at h; omega
  exact ⟨by omega, by omega, by omega, h⟩
theorem scan_cons_zero {x : It α} {r : List (It α)} {c : Nat} (h1 : x.deep ≤ 8) (h2 : c < 200) (h3 : ownE x.n = 0) (h4 : scan (c + 1) r = 0) : scan c (x :: r) = 0 := by
  rw [scan, if_neg (by omega), if_neg (by omega), if_neg (by omega)]; exact h4
mutual
theorem scan_mono (p q : ByteArray) (d d' : Nat) (hd : d' ≤ d) : ∀ (t : Tr α) (c c' : Nat), c' ≤ c → scan c (pre p d t) = 0 → scan c' (pre q d' t) = 0
  | .mk k da e v ks => fun c c' hc h => by
    rw [pre] at h ⊢
    obtain ⟨h1, h2, h3, h4⟩ := scan_zero_cons h
    simp only at h1
    exact scan_cons_zero (by simp only; omega) (by omega) h3 (scans_mono p q (d + 1) (d' + 1) (by omega) ks (c + 1) (c' + 1) (by omega) h4)
theorem scans_mono (p q : ByteArray) (d d' : Nat) (hd : d' ≤ d) : ∀ (ks : List (ByteArray × Tr α)) (c c' : Nat), c' ≤ c → scan c (pres p d ks) = 0 → scan c' (pres q d' ks) = 0
  | [] => fun _ _ _ _ => rfl
  | (n, t) :: r => fun c c' hc h => by
    rw [pres] at h ⊢
    obtain ⟨h1, h2⟩ := scan_zero_app h
    rw [scan_app, if_pos (scan_mono (sub p n) (sub q n) d d' hd t c c' hc h1), pre_len]
    rw [pre_len] at h2
    exact scans_mono p q d d' hd r _ _ (by omega) h2
end
mutual
theorem pre_nodes (p q : ByteArray) (d d' : Nat) : ∀ t : Tr α, (pre p d t).map It.n = (pre q d' t).map It.n
  | .mk k da e v ks => by rw [pre, pre, List.map_cons, List.map_cons, pres_nodes p q (d + 1) (d' + 1) ks]
theorem pres_nodes (p q : ByteArray) (d d' : Nat) : ∀ ks : List (ByteArray × Tr α), (pres p d ks).map It.n = (pres q d' ks).map It.n
  | [] => rfl
  | (n, t) :: r => by rw [pres, pres, List.map_append, List.map_append, pre_nodes (sub p n) (sub q n) d d' t, pres_nodes p q d d' r]
end
theorem treeE_own {t : Tr α} (h : treeE t = 0) : ownE t = 0 ∧ scan 1 (pres ⟨#[]⟩ 1 t.kids) = 0 := by
  unfold treeE at h
  rw [pre_cons] at h
  obtain ⟨_, _, h3, h4⟩ := scan_zero_cons h
  exact ⟨h3, h4⟩
theorem own_names {t : Tr α} (h : ownE t = 0) : ∀ x ∈ t.kids, isName x.1 = true := by
  unfold ownE at h
  repeat (split at h; omega)
  rename_i h5 _
  have h6 : (t.kids.map (·.1)).all isName = true := by
    cases hq : (t.kids.map (·.1)).all isName with
    | true => rfl
    | false => exact absurd hq h5
  rw [List.all_map, List.all_eq_true] at h6
  exact fun x hx => h6 x hx
theorem own_leaf {t : Tr α} (h : ownE t = 0) (hk : t.kind ≠ kDir) : t.kids = [] := by
  unfold ownE at h
  split at h; omega
  split at h; omega
  rename_i h2
  have h3 : shapeB t = true := by
    cases hq : shapeB t with
    | true => rfl
    | false => exact absurd hq h2
  unfold shapeB at h3
  rw [if_neg hk] at h3
  have h4 : t.kids.length = 0 := by
    split at h3
    · exact of_decide_eq_true h3
    · simp only [Bool.and_eq_true, decide_eq_true_eq] at h3; exact h3.2
  exact List.eq_nil_of_length_eq_zero h4
theorem kid_right {t : Tr α} (h : treeE t = 0) {x : ByteArray × Tr α} (hx : x ∈ t.kids) : treeE x.2 = 0 := by
  have h2 := (treeE_own h).2
  obtain ⟨a, b, hab⟩ := List.append_of_mem hx
  rw [hab, pres_app, pres] at h2
  have h3 := (scan_zero_app (scan_zero_app h2).2).1
  exact scan_mono _ _ _ _ (by omega) _ _ _ (by omega) h3
end
end Go.Proofs.YtoaedkinlnkkhaaGreatDoor
