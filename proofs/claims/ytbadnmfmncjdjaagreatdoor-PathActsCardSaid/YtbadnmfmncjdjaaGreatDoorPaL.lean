/- Trees and paths in plain words: each node is at its names, its path splits into them; the files' paths. Condition: the tree is well. -/
import Derived.Test.YtbadnmfmncjdjaaGreatDoorPaA
import Derived.Test.YtbadnmfmncjdjaaGreatDoorPaG
import Derived.Test.YtbadnmfmncjdjaaGreatDoorPaJ
import Derived.Test.YtbadnmfmncjdjaaGreatDoorRf
namespace Go.Proofs.YtbadnmfmncjdjaaGreatDoor
open Go.RowKit Go.Shelf
section
variable {α : Type}

mutual
/-- The nodes of a tree with their names. -/
def preR : Tr α → List (List ByteArray × Tr α)
  | .mk k d e v ks => ([], .mk k d e v ks) :: presR ks
def presR : List (ByteArray × Tr α) → List (List ByteArray × Tr α)
  | [] => []
  | (n, t) :: r => (preR t).map (fun x => (n :: x.1, x.2)) ++ presR r
end
theorem preR_cons (t : Tr α) : preR t = ([], t) :: presR t.kids := by cases t; rfl
theorem presR_mem : ∀ {ks : List (ByteArray × Tr α)} {x}, x ∈ presR ks ↔ ∃ k ∈ ks, ∃ y ∈ preR k.2, x = (k.1 :: y.1, y.2)
  | [], x => by simp [presR]
  | (n, t) :: r, x => by
    rw [presR, List.mem_append, presR_mem (ks := r), List.mem_map]
    constructor
    · rintro (⟨y, hy, rfl⟩ | ⟨k, hk, y, hy, rfl⟩)
      · exact ⟨(n, t), List.mem_cons_self .., y, hy, rfl⟩
      · exact ⟨k, List.mem_cons_of_mem _ hk, y, hy, rfl⟩
    · rintro ⟨k, hk, y, hy, rfl⟩
      rcases List.mem_cons.1 hk with rfl | hk
      · exact .inl ⟨y, hy, rfl⟩
      · exact .inr ⟨k, hk, y, hy, rfl⟩
theorem jt_cons (p n : ByteArray) (l : List ByteArray) : p ++ jt (n :: l) = sub p n ++ jt l := by
  apply ba_inj
  unfold sub
  simp [jt, joined, joinL]
mutual
theorem pre_R (p : ByteArray) (d : Nat) : ∀ t : Tr α, pre p d t = (preR t).map fun x => (⟨p ++ jt x.1, d + x.1.length, x.2⟩ : It α)
  | .mk k da e v ks => by
    rw [pre, preR, List.map_cons, pres_R p d ks]
    congr 1
    · congr 1
      exact ba_inj (by simp [jt, joined, joinL])
theorem pres_R (p : ByteArray) (d : Nat) : ∀ ks : List (ByteArray × Tr α), pres p (d + 1) ks = (presR ks).map fun x => (⟨p ++ jt x.1, d + x.1.length, x.2⟩ : It α)
  | [] => rfl
  | (n, t) :: r => by
    rw [pres, presR, List.map_append, List.map_map, pre_R (sub p n) (d + 1) t, pres_R p d r]
    congr 1
    apply List.map_congr_left
    intro x _
    simp only [Function.comp, jt_cons, List.length_cons]
    congr 1; omega
end
theorem find_kid {ks : List (ByteArray × α)} (hr : rising (ks.map (·.1)) = true) {k : ByteArray × α} (hk : k ∈ ks) : ks.find? (fun x => decide (x.1 = k.1)) = some k := by
  obtain ⟨i, hi, rfl⟩ := List.getElem_of_mem hk
  rw [List.find?_eq_some_iff_getElem]
  refine ⟨by simp, i, hi, rfl, fun j hj => ?_⟩
  have h1 := rising_lt hr j i hj (by simpa using hi)
  simp only [List.getElem_map] at h1
  simp only [Bool.not_eq_true', decide_eq_false_iff_not]
  intro e
  rw [e] at h1
  have := (cmpB_eq (a := ks[i].1) (b := ks[i].1)).2 rfl
  omega
theorem preR_at (m : Nat) : ∀ (t : Tr α), t.sz ≤ m → treeE t = 0 → ∀ x ∈ preR t, atT t x.1 = some x.2 ∧ x.1.all isName = true ∧ treeE x.2 = 0 := by
  induction m with
  | zero => intro t hm; have := Tr.sz_kids t; omega
  | succ m ih =>
    intro t hm h x hx
    rw [preR_cons] at hx
    rcases List.mem_cons.1 hx with rfl | hx
    · exact ⟨rfl, rfl, h⟩
    · obtain ⟨k, hk, y, hy, rfl⟩ := presR_mem.1 hx
      have hs := Tr.sz_lt hk
      obtain ⟨h1, h2, h3⟩ := ih k.2 (by omega) (kid_right h hk) y hy
      refine ⟨?_, ?_, h3⟩
      · rw [atT, find_kid (right_rising h) hk]
        exact h1
      · rw [List.all_cons, own_names (treeE_own h).1 k hk, h2]; rfl
theorem preR_deep {t : Tr α} (h : treeE t = 0) : ∀ x ∈ preR t, x.1.length ≤ 8 := fun x hx => by
  have h1 := (scan_zero h).1 ⟨⟨#[]⟩ ++ jt x.1, 0 + x.1.length, x.2⟩ (by rw [pre_R]; exact List.mem_map.2 ⟨x, hx, rfl⟩)
  have := h1.1
  simp only at this
  omega
theorem names_joined {l : List ByteArray} (h : l.all isName = true) (h8 : l.length ≤ 8) : splitOf (pathOf (jt l)) = some l := by
  cases l with
  | nil =>
    apply splitOf_stroke
    rfl
  | cons n r =>
    have hst : Stroke (jt (n :: r)) := .inr ⟨n.data.toList ++ joined r, rfl⟩
    have hne : (jt (n :: r)).toList ≠ [] := by rw [Lib.toList_data]; intro e; cases e
    rw [path_fix hst, show fixP (jt (n :: r)) = jt (n :: r) from if_neg (by simpa using hne)]
    rw [splitOf_joined (l := n :: r) (by simp) (fun x hx c hc => isName_plain (by rw [List.all_eq_true] at h; exact h x hx) c hc) rfl]
    rw [if_neg, if_pos ⟨h8, h⟩]
    intro e
    obtain ⟨rfl, rfl⟩ := List.cons.inj e
    have : isName (⟨#[]⟩ : ByteArray) = true := by simpa using h
    revert this
    decide
theorem item_get {t : Tr α} (h : treeE t = 0) {x : List ByteArray × Tr α} (hx : x ∈ preR t) : getOf t (pathOf (jt x.1)) = .ok x.2 :=
  let h1 := preR_at t.sz t (Nat.le_refl _) h x hx
  getOf_ok h (names_joined h1.2.1 (preR_deep h x hx)) h1.1
mutual
theorem preR_nodup : ∀ t : Tr α, (∀ x ∈ pre ⟨#[]⟩ 0 t, rising (x.n.kids.map (·.1)) = true) → ((preR t).map (·.1)).Nodup
  | .mk k d e v ks => fun h => by
    rw [preR, List.map_cons, List.nodup_cons]
    refine ⟨?_, ?_⟩
    · intro hm
      obtain ⟨x, hx, he⟩ := List.mem_map.1 hm
      obtain ⟨k, _, y, _, rfl⟩ := presR_mem.1 hx
      cases he
    · have h0 := h ⟨⟨#[]⟩, 0, .mk k d e v ks⟩ (by rw [pre]; exact List.mem_cons_self ..)
      exact presR_nodup ks h0 (fun x hx => h x (by rw [pre]; exact List.mem_cons_of_mem _ hx))
theorem presR_nodup : ∀ ks : List (ByteArray × Tr α), rising (ks.map (·.1)) = true → (∀ x ∈ pres ⟨#[]⟩ 1 ks, rising (x.n.kids.map (·.1)) = true) → ((presR ks).map (·.1)).Nodup
  | [] => fun _ _ => by simp [presR]
  | (n, t) :: r => fun hr h => by
    rw [presR, List.map_append, List.nodup_append]
    have hrr : rising (r.map (·.1)) = true := by
      cases r with
      | nil => rfl
      | cons y r =>
        rw [List.map_cons, List.map_cons, rising, Bool.and_eq_true] at hr
        exact hr.2
    have hall : ∀ x ∈ pre ⟨#[]⟩ 0 t, rising (x.n.kids.map (·.1)) = true := fun x hx => by
      have e := pre_nodes ⟨#[]⟩ (sub ⟨#[]⟩ n) 0 1 t
      have hm : x.n ∈ (pre (sub ⟨#[]⟩ n) 1 t).map It.n := by rw [← e]; exact List.mem_map.2 ⟨x, hx, rfl⟩
      obtain ⟨y, hy, he⟩ := List.mem_map.1 hm
      rw [← he]
      exact h y (by rw [pres]; exact List.mem_append_left _ hy)
    refine ⟨?_, presR_nodup r hrr (fun x hx => h x (by rw [pres]; exact List.mem_append_right _ hx)), ?_⟩
    · have h1 := preR_nodup t hall
      rw [List.map_map]
      have e : (preR t).map ((·.1) ∘ fun x => (n :: x.1, x.2)) = ((preR t).map (·.1)).map (n :: ·) := by rw [List.map_map]; rfl
      rw [e]
      rw [List.Nodup, List.pairwise_map]
      exact List.Pairwise.imp (fun h e => h (List.cons.inj e).2) h1
    · intro a ha b hb e
      obtain ⟨x, hx, rfl⟩ := List.mem_map.1 ha
      obtain ⟨y, hy, rfl⟩ := List.mem_map.1 hx
      obtain ⟨z, hz, rfl⟩ := List.mem_map.1 hb
      obtain ⟨k, hk, u, _, rfl⟩ := presR_mem.1 hz
      simp only at e
      have e1 := (List.cons.inj e).1
      obtain ⟨i, hi, rfl⟩ := List.getElem_of_mem hk
      have := rising_lt hr 0 (i + 1) (by omega) (by simpa using hi)
      simp only [List.map_cons, List.getElem_cons_zero, List.getElem_cons_succ, List.getElem_map] at this
      rw [e1] at this
      have h0 := (cmpB_eq (a := r[i].1) (b := r[i].1)).2 rfl
      omega
end
theorem right_nodup {t : Tr α} (h : treeE t = 0) : ((preR t).map (·.1)).Nodup :=
  preR_nodup t (fun x hx => own_rising ((scan_zero h).1 x hx).2)

end
end Go.Proofs.YtbadnmfmncjdjaaGreatDoor
