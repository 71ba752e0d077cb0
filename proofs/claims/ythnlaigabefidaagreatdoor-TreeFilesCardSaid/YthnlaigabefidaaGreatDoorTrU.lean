/- Sums over a tree's nodes, in plain words. No condition. -/
import Derived.Test.YthnlaigabefidaaGreatDoorTrB
namespace Go.Proofs.YthnlaigabefidaaGreatDoor
open Go.RowKit Go.Shelf
section
variable {α : Type}
theorem scan_zero_app {l r : List (It α)} {c : Nat} (h : scan c (l ++ r) = 0) : scan c l = 0 ∧ scan (c + l.length) r = 0 := by
  rw [scan_app] at h
  by_cases h0 : scan c l = 0
  · rw [if_pos h0] at h; exact ⟨h0, h⟩
  · rw [if_neg h0] at h; exact absurd h h0
theorem scan_zero_cons {x : It α} {r : List (It α)} {c : Nat} (h : scan c (x :: r) = 0) : x.deep ≤ 8 ∧ c < 200 ∧ ownE x.n = 0 ∧ scan (c + 1) r = 0 := by
  rw [scan] at h
  split at h; omega
  split at h; omega
  split at h; omega
  exact ⟨by omega, by omega, by omega, h⟩
theorem scan_cons_zero {x : It α} {r : List (It α)} {c : Nat} (h1 : x.deep ≤ 8) (h2 : c < 200) (h3 : ownE x.n = 0) (h4 : scan (c + 1) r = 0) : scan c (x :: r) = 0 := by
  rw [scan, if_neg (by omega), if_neg (by omega), if_neg (by omega)]; exact h4
mutual
theorem scan_mono (p q : ByteArray) (d d' : Nat) (hd : d' ≤ d) : ∀ (t : Tr α) (c c' : Nat), c' ≤ c → scan c (pre p d t) = 0 → scan c' (pre q d' t) = 0
  | .mk k da e v ks => fun c c' hc h => by
    rw [pre] at h ⊢
    obtain ⟨h1, h2, h3, h4⟩ := scan_zero_cons h
    simp only at h1
    exact scan_cons_zero (by simp only; omega) (by omega) h3 (scans_mono p q (d + 1) (d' + 1) (by omega) ks (c + 1) (c' + 1) (by omega) h4)
theorem scans_mono (p q : ByteArray) (d d' : Nat) (hd : d' ≤ d) : ∀ (ks : List (ByteArray × Tr α)) (c c' : Nat), c' ≤ c → scan c (pres p d ks) = 0 → scan c' (pres q d' ks) = 0
  | [] => fun _ _ _ _ => rfl
  | (n, t) :: r => fun c c' hc h => by
    rw [pres] at h ⊢
    obtain ⟨h1, h2⟩ := scan_zero_app h
    rw [scan_app, if_pos (scan_mono (sub p n) (sub q n) d d' hd t c c' hc h1), pre_len]
    rw [pre_len] at h2
    exact scans_mono p q d d' hd r _ _ (by omega) h2
end
mutual
theorem pre_nodes (p q : ByteArray) (d d' : Nat) : ∀ t : Tr α, (pre p d t).map It.n = (pre q d' t).map It.n
  | .mk k da e v ks => by rw [pre, pre, List.map_cons, List.map_cons, pres_nodes p q (d + 1) (d' + 1) ks]
theorem pres_nodes (p q : ByteArray) (d d' : Nat) : ∀ ks : List (ByteArray × Tr α), (pres p d ks).map It.n = (pres q d' ks).map It.n
  | [] => rfl
  | (n, t) :: r => by rw [pres, pres, List.map_append, List.map_append, pre_nodes (sub p n) (sub q n) d d' t, pres_nodes p q d d' r]
end
theorem fileSz_nodes (l : List (It α)) : fileSz l = ((l.map It.n).map fun t => if t.kind = kFile then t.data.size else 0).sum := by
  unfold fileSz; rw [List.map_map]; rfl
theorem fileN_nodes (l : List (It α)) : (fileL l).length = ((l.map It.n).filter fun t => decide (t.kind = kFile)).length := by
  unfold fileL; rw [List.length_map, List.filter_map, List.length_map]; rfl
theorem fileSz_pre (p q : ByteArray) (d d' : Nat) (t : Tr α) : fileSz (pre p d t) = fileSz (pre q d' t) := by rw [fileSz_nodes, fileSz_nodes, pre_nodes p q d d']
theorem fileN_pre (p q : ByteArray) (d d' : Nat) (t : Tr α) : (fileL (pre p d t)).length = (fileL (pre q d' t)).length := by rw [fileN_nodes, fileN_nodes, pre_nodes p q d d']
theorem fileSz_app (a b : List (It α)) : fileSz (a ++ b) = fileSz a + fileSz b := by simp [fileSz]
theorem fileL_app (a b : List (It α)) : fileL (a ++ b) = fileL a ++ fileL b := by simp [fileL]
theorem listed_of {t : Tr α} (h : treeE t = 0) : listed t = pre ⟨#[]⟩ 0 t := if_pos h
theorem listed_len {t : Tr α} (h : treeE t = 0) : (listed t).length = t.sz := by rw [listed_of h, pre_len]
theorem treeE_own {t : Tr α} (h : treeE t = 0) : ownE t = 0 ∧ scan 1 (pres ⟨#[]⟩ 1 t.kids) = 0 := by
  unfold treeE at h
  rw [pre_cons] at h
  obtain ⟨_, _, h3, h4⟩ := scan_zero_cons h
  exact ⟨h3, h4⟩
theorem own_names {t : Tr α} (h : ownE t = 0) : ∀ x ∈ t.kids, isName x.1 = true := by
  unfold ownE at h
  repeat (split at h; omega)
  rename_i h5 _
  have h6 : (t.kids.map (·.1)).all isName = true := by
    cases hq : (t.kids.map (·.1)).all isName with
    | true => rfl
    | false => exact absurd hq h5
  rw [List.all_map, List.all_eq_true] at h6
  exact fun x hx => h6 x hx
theorem own_leaf {t : Tr α} (h : ownE t = 0) (hk : t.kind ≠ kDir) : t.kids = [] := by
  unfold ownE at h
  split at h; omega
  split at h; omega
  rename_i h2
  have h3 : shapeB t = true := by
    cases hq : shapeB t with
    | true => rfl
    | false => exact absurd hq h2
  unfold shapeB at h3
  rw [if_neg hk] at h3
  have h4 : t.kids.length = 0 := by
    split at h3
    · exact of_decide_eq_true h3
    · simp only [Bool.and_eq_true, decide_eq_true_eq] at h3; exact h3.2
  exact List.eq_nil_of_length_eq_zero h4
theorem kid_right {t : Tr α} (h : treeE t = 0) {x : ByteArray × Tr α} (hx : x ∈ t.kids) : treeE x.2 = 0 := by
  have h2 := (treeE_own h).2
  obtain ⟨a, b, hab⟩ := List.append_of_mem hx
  rw [hab, pres_app, pres] at h2
  have h3 := (scan_zero_app (scan_zero_app h2).2).1
  exact scan_mono _ _ _ _ (by omega) _ _ _ (by omega) h3
theorem leaf_count {t : Tr α} (h : treeE t = 0) (hk : t.kind ≠ kDir) : (listed t).length = 1 := by
  rw [listed_len h, Tr.sz_kids, own_leaf (treeE_own h).1 hk]; rfl
theorem kid_sums {t : Tr α} (h : treeE t = 0) {k : Nat} (hk : k < t.kids.length) :
    Tr.szs (t.kids.take (k + 1)) = Tr.szs (t.kids.take k) + (listed t.kids[k].2).length ∧
    fileSz (pres ⟨#[]⟩ 1 (t.kids.take (k + 1))) = fileSz (pres ⟨#[]⟩ 1 (t.kids.take k)) + fileSz (listed t.kids[k].2) ∧
    (fileL (pres ⟨#[]⟩ 1 (t.kids.take (k + 1)))).length = (fileL (pres ⟨#[]⟩ 1 (t.kids.take k))).length + (fileL (listed t.kids[k].2)).length := by
  have hr := kid_right h (List.getElem_mem hk)
  rw [listed_len hr, listed_of hr, List.take_succ_eq_append_getElem hk]
  generalize t.kids[k] = x
  obtain ⟨n, y⟩ := x
  refine ⟨by rw [Tr.szs_app]; simp [Tr.szs], ?_, ?_⟩
  · rw [pres_app, fileSz_app, pres_one, fileSz_pre (sub ⟨#[]⟩ n) ⟨#[]⟩ 1 0]
  · rw [pres_app, fileL_app, List.length_append, pres_one, fileN_pre (sub ⟨#[]⟩ n) ⟨#[]⟩ 1 0]
theorem dir_sums {t : Tr α} (h : treeE t = 0) (hk : t.kind = kDir) :
    (listed t).length = 1 + Tr.szs t.kids ∧ fileSz (listed t) = fileSz (pres ⟨#[]⟩ 1 t.kids) ∧ (fileL (listed t)).length = (fileL (pres ⟨#[]⟩ 1 t.kids)).length := by
  have hne : ¬ kDir = kFile := by decide
  refine ⟨by rw [listed_len h, Tr.sz_kids]; omega, ?_, ?_⟩
  · rw [listed_of h, pre_cons]
    unfold fileSz
    rw [List.map_cons, List.sum_cons]
    simp only [hk, if_neg hne, Nat.zero_add]
  · rw [listed_of h, pre_cons]
    unfold fileL
    rw [List.filter_cons_of_neg (by simp only [hk, decide_eq_true_eq]; exact hne), Nat.zero_add]
theorem fileSz_le {l : List (It α)} (h : ∀ x ∈ l, x.n.data.size ≤ 2000) : fileSz l ≤ 2000 * l.length := by
  induction l with
  | nil => simp [fileSz]
  | cons x r ih =>
    have h1 := ih (fun y hy => h y (List.mem_cons_of_mem _ hy))
    have h2 := h x (List.mem_cons_self ..)
    have e : fileSz (x :: r) = (if x.n.kind = kFile then x.n.data.size else 0) + fileSz r := by simp [fileSz]
    rw [e, List.length_cons]
    split <;> omega
theorem sums_bd {t : Tr α} (hf : ∀ x ∈ pre ⟨#[]⟩ 0 t, x.n.data.size ≤ 2000) (hs : t.sz ≤ 200) (k : Nat) :
    Tr.szs (t.kids.take k) ≤ 200 ∧ fileSz (pres ⟨#[]⟩ 1 (t.kids.take k)) ≤ 400000 ∧ (fileL (pres ⟨#[]⟩ 1 (t.kids.take k))).length ≤ 200 := by
  have e := List.take_append_drop k t.kids
  have h1 := Tr.szs_app (t.kids.take k) (t.kids.drop k)
  rw [e] at h1
  have h2 := Tr.sz_kids t
  have h3 := pres_len (⟨#[]⟩ : ByteArray) 1 (t.kids.take k)
  have h4 : ∀ x ∈ pres ⟨#[]⟩ 1 (t.kids.take k), x.n.data.size ≤ 2000 := fun x hx => hf x (by
    rw [pre_cons]
    refine List.mem_cons_of_mem _ ?_
    rw [← e, pres_app]
    exact List.mem_append_left _ hx)
  have h5 := fileSz_le h4
  have h6 := fileL_le (pres (⟨#[]⟩ : ByteArray) 1 (t.kids.take k))
  refine ⟨by omega, ?_, by omega⟩
  have : 2000 * (pres (⟨#[]⟩ : ByteArray) 1 (t.kids.take k)).length ≤ 2000 * 200 := Nat.mul_le_mul_left _ (by omega)
  omega
end
end Go.Proofs.YthnlaigabefidaaGreatDoor
