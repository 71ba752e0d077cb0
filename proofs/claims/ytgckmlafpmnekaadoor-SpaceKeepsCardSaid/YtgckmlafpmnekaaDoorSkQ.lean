/- What SpaceKeeps gives back is in use, each block once. No condition. -/
import Derived.Test.YtgckmlafpmnekaaDoorSp4
import Derived.Test.YtgckmlafpmnekaaDoorSkP
namespace Go.Proofs.YtgckmlafpmnekaaDoor

theorem keeps_bad {n : Nat} {us : List Bool} {l : List Nat} {ls : List (List Nat)} (h : Keeps n us (l :: ls)) : (l.map Int.ofNat).any (badK us.length) = false := by
  rw [List.any_eq_false]
  intro x hx
  obtain ⟨j, hj, rfl⟩ := List.mem_map.1 hx
  have := getD_true_lt ((h.used j).2 (by simp [hj]))
  simp only [badK, Bool.or_eq_true, decide_eq_true_eq, not_or, Int.ofNat_eq_natCast]
  omega
theorem keeps_gOk {n : Nat} {us : List Bool} {l : List Nat} {ls : List (List Nat)} (h : Keeps n us (l :: ls)) : gOk us (l.map Int.ofNat) (l.map Int.ofNat).length := by
  intro i hi
  simp only [List.length_map] at hi
  have e : (l.map Int.ofNat).getD i 0 = Int.ofNat l[i] := by
    rw [List.getD_eq_getElem?_getD, List.getElem?_eq_getElem (by simpa using hi)]; simp
  rw [e]
  refine ⟨(h.used _).2 (by simp), ?_⟩
  rw [← List.map_take]
  intro hm
  obtain ⟨j, hj, he⟩ := List.mem_map.1 hm
  have hn := h.nodup
  rw [List.flatten_cons, List.nodup_append] at hn
  have he' : j = l[i] := by injection he
  subst he'
  obtain ⟨q, hq, hqe⟩ := List.mem_iff_getElem.1 hj
  have hq' := hq
  rw [List.length_take] at hq'
  rw [List.getElem_take] at hqe
  have hql : q < l.length := by omega
  have := (List.getElem_inj (xs := l) (i := q) (j := i) (h₀ := hql) (h₁ := hi) hn.1).1 hqe
  omega
theorem keeps_again {n : Nat} {us : List Bool} {x : Nat} {l : List Nat} {ls : List (List Nat)} (h : Keeps n us ((x :: l) :: ls)) : (giv us (x :: l)).getD x false = false := by
  have hl : ∀ j, j ∈ (x :: l) → j < us.length := fun j hj => getD_true_lt ((h.used j).2 (by rw [List.flatten_cons]; exact List.mem_append_left _ hj))
  have := giv_used (x :: l) us hl x
  cases hb : (giv us (x :: l)).getD x false
  · rfl
  · rw [hb] at this; simp at this
theorem toNat_ofNat_map (l : List Nat) : (l.map Int.ofNat).map Int.toNat = l := by
  rw [List.map_map]; exact (List.map_congr_left (g := id) (fun _ _ => rfl)).trans (List.map_id l)
theorem flat_split (ls : List (List Nat)) (q : Nat) (h : q < ls.length) : ls.flatten = (ls.take q).flatten ++ (ls[q] ++ (ls.drop (q + 1)).flatten) := by
  conv => lhs; rw [← List.take_append_drop q ls, List.flatten_append, List.drop_eq_getElem_cons h, List.flatten_cons]
theorem keeps_len {n : Nat} {us : List Bool} {ls : List (List Nat)} (h : Keeps n us ls) : ls.flatten.length ≤ n := by
  have := nodup_len ls.flatten (List.range n) h.nodup (fun j hj => List.mem_range.2 (h.lt hj))
  simpa using this
theorem keeps_part {n : Nat} {us : List Bool} {ls : List (List Nat)} (h : Keeps n us ls) {q : Nat} (hq : q < ls.length) {m : Nat} (hm : m ≤ (ls[q]).length) : (ls.take q).flatten.length + m ≤ n := by
  have h1 := keeps_len h
  rw [flat_split ls q hq] at h1
  simp only [List.length_append] at h1
  omega
theorem keeps_fresh {n : Nat} {us : List Bool} {ls : List (List Nat)} (h : Keeps n us ls) {q : Nat} (hq : q < ls.length) {k : Nat} (hk : k < (ls[q]).length) : (ls[q])[k] ∉ (ls.take q).flatten ++ (ls[q]).take k := by
  have h1 := h.nodup
  rw [flat_split ls q hq, List.nodup_append] at h1
  have h2 := (List.nodup_append.1 h1.2.1).1
  intro hm
  rcases List.mem_append.1 hm with hm | hm
  · exact h1.2.2 _ hm _ (List.mem_append_left _ (List.getElem_mem hk)) rfl
  · obtain ⟨i, hi, he⟩ := List.mem_iff_getElem.1 hm
    have hi' := hi
    rw [List.length_take] at hi'
    rw [List.getElem_take] at he
    have := (List.getElem_inj (xs := ls[q]) (i := i) (j := k) (h₀ := by omega) (h₁ := hk) h2).1 he
    omega
theorem mark_next {ss : List Bool} {L : List Nat} {x : Nat} {l : List Nat} (hx : x < ss.length) (h : ∀ j, ss.getD j false = true ↔ j ∈ L ++ l) : ∀ j, (ss.set x true).getD j false = true ↔ j ∈ L ++ (l ++ [x]) := by
  intro j
  rw [set_getD hx]
  by_cases e : j = x
  · subst e; simp
  · rw [if_neg e, h]; simp [e]
theorem take_flat (ls : List (List Nat)) (q : Nat) (h : q < ls.length) : (ls.take (q + 1)).flatten = (ls.take q).flatten ++ ls[q] := by
  rw [List.take_succ_eq_append_getElem h, List.flatten_append]; simp

end Go.Proofs.YtgckmlafpmnekaaDoor
