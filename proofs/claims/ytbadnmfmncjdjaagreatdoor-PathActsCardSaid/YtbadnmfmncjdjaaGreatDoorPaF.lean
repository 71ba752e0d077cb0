/- Links followed, in plain words. Condition: the tree is well. -/
import Derived.Test.YtbadnmfmncjdjaaGreatDoorPaL
namespace Go.Proofs.YtbadnmfmncjdjaaGreatDoor
open Go.RowKit Go.Shelf
section
variable {α : Type}

/-- Links followed: so many that one may still go, what is to do, where one is. -/
def fol (t : Tr α) : Nat → List ByteArray → List ByteArray → Except Nat (List ByteArray)
  | _, [], cur => .ok cur
  | k, n :: todo, cur =>
    if n.data.toList = [] ∨ n.data.toList = [46] then fol t k todo cur
    else if n.data.toList = [46, 46] then fol t k todo cur.dropLast
    else if isName n = false then .error 5
    else match atT t (cur ++ [n]) with
      | none => .error 6
      | some x =>
        if x.kind = kLink then match k with
          | 0 => .error 9
          | k + 1 => fol t k (pieces x.data ++ todo) (if x.data.data.toList.head? = some 47 then [] else cur)
        else fol t k todo (cur ++ [n])
termination_by k todo => (k, todo.length)
theorem fol_nil (t : Tr α) (k : Nat) (cur : List ByteArray) : fol t k [] cur = .ok cur := by rw [fol]
theorem fol_dot {t : Tr α} {k : Nat} {n : ByteArray} {todo cur : List ByteArray} (h : n.data.toList = [] ∨ n.data.toList = [46]) : fol t k (n :: todo) cur = fol t k todo cur := by rw [fol, if_pos h]
theorem fol_up {t : Tr α} {k : Nat} {n : ByteArray} {todo cur : List ByteArray} (h : n.data.toList = [46, 46]) : fol t k (n :: todo) cur = fol t k todo cur.dropLast := by
  rw [fol, if_neg (by rw [h]; simp), if_pos h]
theorem name_dots {n : ByteArray} (h : isName n = true) : ¬ (n.data.toList = [] ∨ n.data.toList = [46]) ∧ ¬ n.data.toList = [46, 46] := by
  unfold isName at h
  simp only [Bool.and_eq_true, decide_eq_true_eq, Bool.not_eq_true', decide_eq_false_iff_not] at h
  obtain ⟨⟨⟨⟨-, h1⟩, -⟩, h2⟩, h3⟩ := h
  have e : n.data.toList.length = n.size := by simp
  refine ⟨?_, h3⟩
  rintro (h | h)
  · rw [h] at e; simp at e; omega
  · exact h2 h
theorem fol_bad {t : Tr α} {k : Nat} {n : ByteArray} {todo cur : List ByteArray} (h1 : ¬ (n.data.toList = [] ∨ n.data.toList = [46])) (h2 : ¬ n.data.toList = [46, 46]) (h3 : isName n = false) : fol t k (n :: todo) cur = .error 5 := by
  rw [fol, if_neg h1, if_neg h2, if_pos h3]
theorem fol_none {t : Tr α} {k : Nat} {n : ByteArray} {todo cur : List ByteArray} (h : isName n = true) (ha : atT t (cur ++ [n]) = none) : fol t k (n :: todo) cur = .error 6 := by
  rw [fol, if_neg (name_dots h).1, if_neg (name_dots h).2, if_neg (by rw [h]; decide), ha]
theorem fol_go {t x : Tr α} {k : Nat} {n : ByteArray} {todo cur : List ByteArray} (h : isName n = true) (ha : atT t (cur ++ [n]) = some x) (hk : x.kind ≠ kLink) : fol t k (n :: todo) cur = fol t k todo (cur ++ [n]) := by
  rw [fol, if_neg (name_dots h).1, if_neg (name_dots h).2, if_neg (by rw [h]; decide), ha]
  simp only [if_neg hk]
theorem fol_last {t x : Tr α} {n : ByteArray} {todo cur : List ByteArray} (h : isName n = true) (ha : atT t (cur ++ [n]) = some x) (hk : x.kind = kLink) : fol t 0 (n :: todo) cur = .error 9 := by
  rw [fol, if_neg (name_dots h).1, if_neg (name_dots h).2, if_neg (by rw [h]; decide), ha]
  simp only [if_pos hk]
theorem fol_link {t x : Tr α} {k : Nat} {n : ByteArray} {todo cur : List ByteArray} (h : isName n = true) (ha : atT t (cur ++ [n]) = some x) (hk : x.kind = kLink) :
    fol t (k + 1) (n :: todo) cur = fol t k (pieces x.data ++ todo) (if x.data.data.toList.head? = some 47 then [] else cur) := by
  rw [fol, if_neg (name_dots h).1, if_neg (name_dots h).2, if_neg (by rw [h]; decide), ha]
  simp only [if_pos hk]

theorem atT_app : ∀ (a b : List ByteArray) (t : Tr α), atT t (a ++ b) = (atT t a).bind fun x => atT x b
  | [], b, t => rfl
  | n :: a, b, t => by
    rw [List.cons_append, atT, atT]
    cases t.kids.find? (fun k => decide (k.1 = n)) with
    | none => rfl
    | some k => exact atT_app a b k.2
theorem atT_mem : ∀ {l : List ByteArray} {t x : Tr α}, atT t l = some x → (l, x) ∈ preR t
  | [], t, x, e => by rw [atT] at e; rw [← Option.some.inj e, preR_cons]; exact List.mem_cons_self ..
  | n :: r, t, x, e => by
    rw [atT] at e
    cases hf : t.kids.find? (fun k => decide (k.1 = n)) with
    | none => rw [hf] at e; cases e
    | some k =>
      rw [hf] at e
      rw [preR_cons]
      refine List.mem_cons_of_mem _ (presR_mem.2 ⟨k, List.mem_of_find?_eq_some hf, (r, x), atT_mem e, ?_⟩)
      have := List.find?_some hf
      rw [of_decide_eq_true this]
/-- A node that has a kid is a dir. -/
theorem atT_dir {t x y : Tr α} {l : List ByteArray} {n : ByteArray} (h : treeE t = 0) (hx : atT t l = some x) (hy : atT t (l ++ [n]) = some y) : x.kind = kDir := by
  have hr := atT_right h hx
  cases hq : decide (x.kind = kDir) with
  | true => exact of_decide_eq_true hq
  | false =>
    have hk := own_leaf (treeE_own hr).1 (of_decide_eq_false hq)
    rw [atT_app, hx] at hy
    simp only [Option.bind_some, atT] at hy
    rw [hk] at hy
    cases hy
theorem dir_link : kDir ≠ kLink := by decide

/-- Where one is: a node that is no link. -/
def GoodC (t : Tr α) (cur : List ByteArray) : Prop := cur.all isName = true ∧ (cur = [] ∨ ∃ x, atT t cur = some x ∧ x.kind ≠ kLink)
theorem GoodC.nil (t : Tr α) : GoodC t [] := ⟨rfl, .inl rfl⟩
theorem GoodC.up {t : Tr α} {cur : List ByteArray} (h0 : treeE t = 0) (h : GoodC t cur) : GoodC t cur.dropLast := by
  obtain ⟨h1, h2⟩ := h
  rcases h2 with rfl | ⟨x, hx, hk⟩
  · exact ⟨rfl, .inl rfl⟩
  · by_cases hc : cur = []
    · subst hc; exact ⟨rfl, .inl rfl⟩
    · have e := List.dropLast_concat_getLast hc
      have ha := hx
      rw [← e, atT_app] at ha
      cases hy : atT t cur.dropLast with
      | none => rw [hy] at ha; cases ha
      | some y =>
        refine ⟨?_, .inr ⟨y, hy, ?_⟩⟩
        · rw [List.all_eq_true] at h1 ⊢
          exact fun z hz => h1 z (List.dropLast_subset _ hz)
        · rw [atT_dir h0 hy (by rw [e]; exact hx)]
          exact dir_link
theorem GoodC.add {t x : Tr α} {cur : List ByteArray} {n : ByteArray} (h : GoodC t cur) (hn : isName n = true) (hx : atT t (cur ++ [n]) = some x) (hk : x.kind ≠ kLink) : GoodC t (cur ++ [n]) :=
  ⟨by rw [List.all_append, h.1]; simp [hn], .inr ⟨x, hx, hk⟩⟩
theorem fol_good {t : Tr α} (h0 : treeE t = 0) (m : Nat) : ∀ (j k : Nat) (todo cur r : List ByteArray), k ≤ m → todo.length ≤ j → GoodC t cur → fol t k todo cur = .ok r → GoodC t r := by
  induction m with
  | zero =>
    intro j
    induction j with
    | zero =>
      intro k todo cur r _ hj hg h
      obtain rfl : todo = [] := List.eq_nil_of_length_eq_zero (by omega)
      rw [fol_nil] at h
      rw [← Except.ok.inj h]; exact hg
    | succ j ih =>
      intro k todo cur r hk hj hg h
      cases todo with
      | nil => rw [fol_nil] at h; rw [← Except.ok.inj h]; exact hg
      | cons n todo =>
        have hj' : todo.length ≤ j := by simpa using hj
        by_cases h1 : n.data.toList = [] ∨ n.data.toList = [46]
        · rw [fol_dot h1] at h; exact ih k todo cur r hk hj' hg h
        by_cases h2 : n.data.toList = [46, 46]
        · rw [fol_up h2] at h; exact ih k todo _ r hk hj' (hg.up h0) h
        cases h3 : isName n with
        | false => rw [fol_bad h1 h2 h3] at h; cases h
        | true =>
          cases ha : atT t (cur ++ [n]) with
          | none => rw [fol_none h3 ha] at h; cases h
          | some x =>
            by_cases hl : x.kind = kLink
            · obtain rfl : k = 0 := by omega
              rw [fol_last h3 ha hl] at h; cases h
            · rw [fol_go h3 ha hl] at h; exact ih k todo _ r hk hj' (hg.add h3 ha hl) h
  | succ m ihm =>
    intro j
    induction j with
    | zero =>
      intro k todo cur r _ hj hg h
      obtain rfl : todo = [] := List.eq_nil_of_length_eq_zero (by omega)
      rw [fol_nil] at h
      rw [← Except.ok.inj h]; exact hg
    | succ j ih =>
      intro k todo cur r hk hj hg h
      cases todo with
      | nil => rw [fol_nil] at h; rw [← Except.ok.inj h]; exact hg
      | cons n todo =>
        have hj' : todo.length ≤ j := by simpa using hj
        by_cases h1 : n.data.toList = [] ∨ n.data.toList = [46]
        · rw [fol_dot h1] at h; exact ih k todo cur r hk hj' hg h
        by_cases h2 : n.data.toList = [46, 46]
        · rw [fol_up h2] at h; exact ih k todo _ r hk hj' (hg.up h0) h
        cases h3 : isName n with
        | false => rw [fol_bad h1 h2 h3] at h; cases h
        | true =>
          cases ha : atT t (cur ++ [n]) with
          | none => rw [fol_none h3 ha] at h; cases h
          | some x =>
            by_cases hl : x.kind = kLink
            · cases k with
              | zero => rw [fol_last h3 ha hl] at h; cases h
              | succ k =>
                rw [fol_link h3 ha hl] at h
                refine ihm _ k _ _ r (by omega) (Nat.le_refl _) ?_ h
                split
                · exact GoodC.nil t
                · exact hg
            · rw [fol_go h3 ha hl] at h; exact ih k todo _ r hk hj' (hg.add h3 ha hl) h
/-- Where no link is on the way, one comes to the path's end. -/
theorem fol_plain {t : Tr α} (k : Nat) : ∀ (l cur : List ByteArray), l.all isName = true → (∀ i, i < l.length → ∃ x, atT t (cur ++ l.take (i + 1)) = some x ∧ x.kind ≠ kLink) → fol t k l cur = .ok (cur ++ l)
  | [], cur, _, _ => by rw [fol_nil, List.append_nil]
  | n :: l, cur, hn, h => by
    rw [List.all_cons, Bool.and_eq_true] at hn
    obtain ⟨x, hx, hk⟩ := h 0 (by simp)
    rw [List.take_succ_cons, List.take_zero] at hx
    rw [fol_go hn.1 hx hk, fol_plain k l (cur ++ [n]) hn.2 (fun i hi => by
      have := h (i + 1) (by simpa using hi)
      rwa [List.take_succ_cons, show cur ++ n :: l.take (i + 1) = cur ++ [n] ++ l.take (i + 1) by simp] at this)]
    simp

/-- Names as a path. -/
def joinP (l : List ByteArray) : ByteArray := pathOf (jt l)
/-- What is followed to: an error's number, or a path. -/
def followOf (t : Tr α) (s : ByteArray) : Except Nat (List ByteArray) :=
  if treeE t = 0 then match splitOf s with
    | none => .error 5
    | some l => fol t 16 l []
  else .error (treeE t)
theorem follow_err {t : Tr α} {s : ByteArray} (h : treeE t ≠ 0) : followOf t s = .error (treeE t) := by unfold followOf; rw [if_neg h]
theorem follow_split {t : Tr α} {s : ByteArray} (h : treeE t = 0) (hs : splitOf s = none) : followOf t s = .error 5 := by unfold followOf; rw [if_pos h, hs]
theorem follow_some {t : Tr α} {s : ByteArray} {l : List ByteArray} (h : treeE t = 0) (hs : splitOf s = some l) : followOf t s = fol t 16 l [] := by unfold followOf; rw [if_pos h, hs]
theorem good_split {t : Tr α} {r : List ByteArray} (h0 : treeE t = 0) (hg : GoodC t r) : splitOf (joinP r) = some r := by
  refine names_joined hg.1 ?_
  rcases hg.2 with rfl | ⟨x, hx, -⟩
  · simp
  · exact preR_deep h0 _ (atT_mem hx)
/-- What is followed to: a node that is no link, and it stays. -/
theorem follow_stays {t : Tr α} {s : ByteArray} {r : List ByteArray} (h : followOf t s = .ok r) :
    treeE t = 0 ∧ GoodC t r ∧ (∃ x, getOf t (joinP r) = .ok x ∧ (r = [] ∨ x.kind ≠ kLink)) ∧ followOf t (joinP r) = .ok r := by
  by_cases h0 : treeE t = 0
  · cases hs : splitOf s with
    | none => rw [follow_split h0 hs] at h; cases h
    | some l =>
      rw [follow_some h0 hs] at h
      have hg := fol_good h0 16 l.length 16 l [] r (Nat.le_refl _) (Nat.le_refl _) (GoodC.nil t) h
      have hsp := good_split h0 hg
      refine ⟨h0, hg, ?_, ?_⟩
      · rcases hg.2 with rfl | ⟨x, hx, hk⟩
        · exact ⟨t, getOf_ok h0 hsp rfl, .inl rfl⟩
        · exact ⟨x, getOf_ok h0 hsp hx, .inr hk⟩
      · rw [follow_some h0 hsp]
        have := fol_plain 16 r [] hg.1 (fun i hi => by
          rcases hg.2 with rfl | ⟨x, hx, hk⟩
          · simp at hi
          · rw [List.nil_append]
            have e := List.take_append_drop (i + 1) r
            have hx' := hx
            rw [← e, atT_app] at hx'
            cases hy : atT t (r.take (i + 1)) with
            | none => rw [hy] at hx'; cases hx'
            | some y =>
              refine ⟨y, rfl, ?_⟩
              by_cases hi1 : i + 1 = r.length
              · rw [hi1, List.take_of_length_le (Nat.le_refl _), hx] at hy
                rw [← Option.some.inj hy]; exact hk
              · have hdr : r.drop (i + 1) = r[i + 1]'(by omega) :: r.drop (i + 2) := by rw [List.getElem_cons_drop]
                rw [hy, hdr] at hx'
                simp only [Option.bind_some] at hx'
                rw [show (r[i + 1]'(by omega) :: r.drop (i + 2)) = [r[i + 1]'(by omega)] ++ r.drop (i + 2) from rfl, atT_app] at hx'
                cases hz : atT y [r[i + 1]'(by omega)] with
                | none => rw [hz] at hx'; cases hx'
                | some z =>
                  rw [atT_dir h0 hy (y := z) (n := r[i + 1]'(by omega)) (by rw [atT_app, hy]; exact hz)]
                  exact dir_link)
        simpa using this
  · rw [follow_err h0] at h; cases h
end
end Go.Proofs.YtbadnmfmncjdjaaGreatDoor
