/- A right tree's text is read back, in plain words. No condition. -/
import Derived.Test.YtoaedkinlnkkhaaDoorPkL
namespace Go.Proofs.YtoaedkinlnkkhaaDoor
open Go.RowKit

theorem own_fit {α : Type} {t : Tr α} (h : ownE t = 0) : t.data.size ≤ 2000 ∧ ((t.kind = kDir ∧ t.data.size = 0 ∧ t.exec = false) ∨ (t.kind = kLink ∧ t.exec = false ∧ t.kids.length = 0) ∨ (t.kind = kFile ∧ t.kids.length = 0)) ∧ (t.kids.map (·.1)).all isName = true := by
  unfold ownE at h
  split at h
  · cases h
  · rename_i h1
    split at h
    · cases h
    · rename_i h2
      split at h
      · cases h
      · rename_i h3
        split at h
        · cases h
        · split at h
          · cases h
          · rename_i h5
            have hk : t.kind = kFile ∨ t.kind = kDir ∨ t.kind = kLink := Classical.not_not.1 h1
            have hsh : shapeB t = true := by simpa using h2
            refine ⟨by omega, ?_, by simpa using h5⟩
            unfold shapeB at hsh
            rcases hk with hk | hk | hk
            · rw [if_pos hk] at hsh
              exact .inr (.inr ⟨hk, of_decide_eq_true hsh⟩)
            · rw [hk, if_neg (by decide), if_pos rfl, Bool.and_eq_true] at hsh
              exact .inl ⟨hk, of_decide_eq_true hsh.1, by simpa using hsh.2⟩
            · rw [hk, if_neg (by decide), if_neg (by decide), Bool.and_eq_true] at hsh
              exact .inr (.inl ⟨hk, by simpa using hsh.1, of_decide_eq_true hsh.2⟩)
theorem name_size {s : ByteArray} (h : isName s = true) : s.size ≤ 12 := by
  unfold isName at h
  simp only [Bool.and_eq_true, decide_eq_true_eq] at h
  omega
theorem emp_eq {s : ByteArray} (h : s.size = 0) : s = ⟨#[]⟩ := ba_ext (List.eq_nil_of_length_eq_zero (by rw [size_toList]; exact h))
theorem szs_len {α : Type} : ∀ ks : List (ByteArray × Tr α), ks.length ≤ Tr.szs ks
  | [] => by simp
  | (n, t) :: r => by
    have := szs_len r
    have := Tr.sz_kids t
    rw [Tr.szs, List.length_cons]
    omega
mutual
theorem fit_of : ∀ (t : Nd) (d : Nat) (p : ByteArray), (∀ x ∈ pre p d t, x.deep ≤ 8 ∧ ownE x.n = 0) → t.sz ≤ 200 → FitT (9 - d) t
  | .mk k da e u ks, d, p, h, hs => by
    have h0 := h ⟨p, d, .mk k da e u ks⟩ (by rw [pre_cons]; simp)
    simp only at h0
    obtain ⟨o1, o2, o3⟩ := own_fit h0.2
    simp only [Tr.kind, Tr.data, Tr.exec, Tr.kids] at o1 o2 o3
    have hsz := Tr.sz_kids (Tr.mk k da e u ks)
    simp only [Tr.kids] at hsz
    have hl := szs_len ks
    have hF : FitS (9 - (d + 1)) ks := fits_of ks (d + 1) p (fun x hx => h x (by rw [pre_cons]; simp only [Tr.kids]; exact List.mem_cons_of_mem _ hx)) (by omega) (fun x hx => name_size (List.all_eq_true.1 o3 x hx))
    rw [FitT]
    refine ⟨by omega, by omega, by omega, ?_⟩
    rcases o2 with ⟨a1, a2, a3⟩ | ⟨a1, a2, a3⟩ | ⟨a1, a2⟩
    · exact .inl ⟨a1, emp_eq a2, a3, by rw [show 9 - d - 1 = 9 - (d + 1) by omega]; exact hF⟩
    · exact .inr (.inl ⟨a1, a2, List.eq_nil_of_length_eq_zero a3⟩)
    · exact .inr (.inr ⟨a1, List.eq_nil_of_length_eq_zero a2⟩)
theorem fits_of : ∀ (ks : List (ByteArray × Nd)) (d : Nat) (p : ByteArray), (∀ x ∈ pres p d ks, x.deep ≤ 8 ∧ ownE x.n = 0) → Tr.szs ks ≤ 200 → (∀ x ∈ ks.map (·.1), x.size ≤ 12) → FitS (9 - d) ks
  | [], d, p, h, hs, hn => by rw [FitS]; trivial
  | (n, t) :: r, d, p, h, hs, hn => by
    rw [Tr.szs] at hs
    rw [pres] at h
    have h1 := hn n (by simp)
    rw [FitS]
    exact ⟨by omega, fit_of t d (sub p n) (fun x hx => h x (List.mem_append_left _ hx)) (by omega), fits_of r d p (fun x hx => h x (List.mem_append_right _ hx)) (by omega) (fun x hx => hn x (by simp only [List.map_cons, List.mem_cons]; exact .inr hx))⟩
end
/-- A right tree is read back as it was written, also with anything behind it. -/
theorem right_text {t : Nd} (h : treeE t = 0) (more : List UInt8) : nodeP 9 0 (textL t ++ more) = .ok (t, t.sz, more) := by
  unfold treeE at h
  obtain ⟨h1, h2⟩ := scan_zero h
  have hs : t.sz ≤ 200 := by
    have := h2 (by rw [pre_cons]; simp)
    rw [pre_len] at this
    omega
  have := node_text t 9 0 more (fit_of t 0 _ h1 hs) (by omega)
  rwa [Nat.zero_add] at this
/-- No right tree's text begins another one's. -/
theorem text_begins {a b : Nd} {m : List UInt8} (ha : treeE a = 0) (hb : treeE b = 0) (h : textL a ++ m = textL b) : a = b := by
  have h1 := right_text ha m
  have h2 := right_text hb []
  rw [h, ← List.append_nil (textL b), h2] at h1
  injection h1 with h1
  exact (Prod.mk.inj h1).1.symm
end Go.Proofs.YtoaedkinlnkkhaaDoor
