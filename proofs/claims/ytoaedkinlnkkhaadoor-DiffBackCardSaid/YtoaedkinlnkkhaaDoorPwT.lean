/- Setting and dropping a node by names, in plain words, and what is got behind it. No condition. -/
import Derived.Test.YtoaedkinlnkkhaaDoorPaF
namespace Go.Proofs.YtoaedkinlnkkhaaDoor
open Go.RowKit
section
variable {α β : Type}

theorem kids_mk (k d : ByteArray) (e : Bool) (v : α) (ks : List (ByteArray × Tr α)) : (Tr.mk k d e v ks).kids = ks := rfl
/-- Kids ahead of a name, and the others. -/
def lowK (ks : List (ByteArray × α)) (n : ByteArray) : List (ByteArray × α) := ks.takeWhile fun k => decide (cmpB k.1 n < 0)
def highK (ks : List (ByteArray × α)) (n : ByteArray) : List (ByteArray × α) := ks.dropWhile fun k => decide (cmpB k.1 n < 0)
theorem low_high (ks : List (ByteArray × α)) (n : ByteArray) : lowK ks n ++ highK ks n = ks := List.takeWhile_append_dropWhile
theorem low_lt {ks : List (ByteArray × α)} {n : ByteArray} {k : ByteArray × α} (h : k ∈ lowK ks n) : cmpB k.1 n < 0 := by
  have := List.all_takeWhile (p := fun k : ByteArray × α => decide (cmpB k.1 n < 0)) (l := ks)
  exact of_decide_eq_true (List.all_eq_true.1 this k h)
theorem fnd_low : ∀ {ks : List (ByteArray × α)} {n : ByteArray} {i : Nat} {f : Bool}, FndK ks n i f → lowK ks n = ks.take i ∧ highK ks n = ks.drop i
  | [], n, i, f, _ => by simp [lowK, highK]
  | k :: ks, n, 0, f, h => by
    obtain ⟨h1, h2, h3, h4⟩ := h
    have := h3 0 (by simp) (Nat.le_refl _)
    simp only [List.getElem_cons_zero] at this
    unfold lowK highK
    rw [List.takeWhile_cons, List.dropWhile_cons, if_neg (by simp; omega), if_neg (by simp; omega)]
    simp
  | k :: ks, n, i + 1, f, h => by
    obtain ⟨h1, h2, h3, h4⟩ := h
    have h0 := h2 0 (by simp) (by omega)
    simp only [List.getElem_cons_zero] at h0
    have ih := fnd_low (ks := ks) (n := n) (i := i) (f := f) ⟨by simpa using h1, fun j hj hji => h2 (j + 1) (by simpa using hj) (by omega), fun j hj hji => h3 (j + 1) (by simpa using hj) (by omega), by simpa using h4⟩
    unfold lowK highK at ih ⊢
    rw [List.takeWhile_cons, List.dropWhile_cons, if_pos (by simpa using h0), if_pos (by simpa using h0), ih.1, ih.2]
    simp
theorem find_low {ks : List (ByteArray × α)} {n : ByteArray} : (lowK ks n).find? (fun k => decide (k.1 = n)) = none := by
  rw [List.find?_eq_none]
  intro x hx e
  have h1 := low_lt hx
  rw [of_decide_eq_true e] at h1
  have := (cmpB_eq (a := n) (b := n)).2 rfl
  omega

/-- A node with another one at names. -/
def withT (x : Tr α) : List ByteArray → Tr α → Option (Tr α)
  | [], _ => some x
  | n :: r, t => if t.kind = kDir then match highK t.kids n with
      | k :: c => if k.1 = n then (withT x r k.2).map fun y => .mk t.kind t.data t.exec t.v (lowK t.kids n ++ (n, y) :: c)
        else if r = [] then some (.mk t.kind t.data t.exec t.v (lowK t.kids n ++ (n, x) :: k :: c)) else none
      | [] => if r = [] then some (.mk t.kind t.data t.exec t.v (lowK t.kids n ++ [(n, x)])) else none
    else none
/-- A node without the one at names. -/
def withoutT : List ByteArray → Tr α → Tr α
  | [], t => t
  | n :: r, t => match highK t.kids n with
    | k :: c => .mk t.kind t.data t.exec t.v (if r = [] then lowK t.kids n ++ c else lowK t.kids n ++ (k.1, withoutT r k.2) :: c)
    | [] => t
theorem with_nil (x t : Tr α) : withT x [] t = some x := by rw [withT]
theorem with_leaf {x t : Tr α} {n : ByteArray} {r : List ByteArray} (h : t.kind ≠ kDir) : withT x (n :: r) t = none := by rw [withT, if_neg h]
theorem with_hit {x t : Tr α} {n : ByteArray} {r : List ByteArray} {k : ByteArray × Tr α} {c : List (ByteArray × Tr α)} (h : t.kind = kDir) (hk : highK t.kids n = k :: c) (hn : k.1 = n) :
    withT x (n :: r) t = (withT x r k.2).map fun y => .mk t.kind t.data t.exec t.v (lowK t.kids n ++ (n, y) :: c) := by
  rw [withT, if_pos h, hk]
  simp only
  rw [if_pos hn]
theorem with_miss {x t : Tr α} {n : ByteArray} {r : List ByteArray} (h : t.kind = kDir) (hk : ∀ k c, highK t.kids n = k :: c → k.1 ≠ n) :
    withT x (n :: r) t = if r = [] then some (.mk t.kind t.data t.exec t.v (lowK t.kids n ++ (n, x) :: highK t.kids n)) else none := by
  rw [withT, if_pos h]
  cases hh : highK t.kids n with
  | nil => rfl
  | cons k c => simp only; rw [if_neg (hk k c hh)]
theorem without_hit {t : Tr α} {n : ByteArray} {r : List ByteArray} {k : ByteArray × Tr α} {c : List (ByteArray × Tr α)} (hk : highK t.kids n = k :: c) :
    withoutT (n :: r) t = .mk t.kind t.data t.exec t.v (if r = [] then lowK t.kids n ++ c else lowK t.kids n ++ (k.1, withoutT r k.2) :: c) := by
  rw [withoutT, hk]

theorem atT_map (f : α → β) : ∀ (l : List ByteArray) (t : Tr α), atT (t.map f) l = (atT t l).map (Tr.map f)
  | [], t => rfl
  | n :: r, t => by
    rw [atT, atT, Tr.kids_map, List.find?_map]
    show (Option.map _ (t.kids.find? fun k => decide (k.1 = n))).bind _ = _
    cases t.kids.find? fun k => decide (k.1 = n) with
    | none => rfl
    | some k => exact atT_map f r k.2
theorem getOf_map (f : α → β) (t : Tr α) (s : ByteArray) : getOf (t.map f) s = (getOf t s).map (Tr.map f) := by
  unfold getOf
  rw [treeE_map]
  by_cases h : treeE t = 0
  · rw [if_pos h, if_pos h]
    cases splitOf s with
    | none => rfl
    | some l =>
      simp only [atT_map]
      cases atT t l <;> rfl
  · rw [if_neg h, if_neg h]; rfl

theorem find_app_high {ks : List (ByteArray × α)} {n m : ByteArray} {k : ByteArray × α} {c : List (ByteArray × α)} (hk : highK ks n = k :: c) : ks.find? (fun x => decide (x.1 = m)) = ((lowK ks n ++ k :: c).find? fun x => decide (x.1 = m)) := by
  conv => lhs; rw [← low_high ks n, hk]
/-- What was set is there. -/
theorem with_at {x : Tr α} : ∀ {l : List ByteArray} {t y : Tr α}, withT x l t = some y → atT y l = some x
  | [], t, y, h => by rw [with_nil] at h; rw [atT, ← Option.some.inj h]
  | n :: r, t, y, h => by
    by_cases hd : t.kind = kDir
    · by_cases hm : ∃ k c, highK t.kids n = k :: c ∧ k.1 = n
      · obtain ⟨k, c, hk, hn⟩ := hm
        rw [with_hit hd hk hn] at h
        cases hw : withT x r k.2 with
        | none => rw [hw] at h; cases h
        | some z =>
          rw [hw] at h
          obtain rfl := Option.some.inj h
          rw [atT]
          simp only [kids_mk]
          rw [List.find?_append, find_low]
          simp only [Option.none_or, List.find?_cons_of_pos, decide_true]
          exact with_at hw
      · rw [with_miss hd (fun k c hk hn => hm ⟨k, c, hk, hn⟩)] at h
        split at h
        · rename_i hr
          subst hr
          obtain rfl := Option.some.inj h
          rw [atT]
          simp only [kids_mk]
          rw [List.find?_append, find_low]
          simp only [Option.none_or, List.find?_cons_of_pos, decide_true]
          rfl
        · cases h
    · rw [with_leaf hd] at h; cases h
/-- Another path is as it was. -/
theorem with_apart {x : Tr α} : ∀ {l m : List ByteArray} {t y : Tr α}, withT x l t = some y → ¬ l <+: m → ¬ m <+: l → atT y m = atT t m
  | [], m, t, y, h, h1, _ => absurd (List.nil_prefix) h1
  | n :: r, [], t, y, h, _, h2 => absurd (List.nil_prefix) h2
  | n :: r, m :: q, t, y, h, h1, h2 => by
    by_cases hd : t.kind = kDir
    · by_cases hm : ∃ k c, highK t.kids n = k :: c ∧ k.1 = n
      · obtain ⟨k, c, hk, hn⟩ := hm
        rw [with_hit hd hk hn] at h
        cases hw : withT x r k.2 with
        | none => rw [hw] at h; cases h
        | some z =>
          rw [hw] at h
          obtain rfl := Option.some.inj h
          rw [atT, atT]
          simp only [kids_mk]
          rw [find_app_high hk, List.find?_append, List.find?_append]
          by_cases e : m = n
          · subst e
            rw [find_low]
            simp only [Option.none_or]
            rw [List.find?_cons_of_pos (by simp), List.find?_cons_of_pos (by simp [hn])]
            exact with_apart hw (fun hp => h1 (by rw [List.cons_prefix_cons]; exact ⟨rfl, hp⟩)) (fun hp => h2 (by rw [List.cons_prefix_cons]; exact ⟨rfl, hp⟩))
          · rw [List.find?_cons_of_neg (by simp; exact fun h => e h.symm), List.find?_cons_of_neg (by simp [hn]; exact fun h => e h.symm)]
      · rw [with_miss hd (fun k c hk hn => hm ⟨k, c, hk, hn⟩)] at h
        split at h
        · rename_i hr
          subst hr
          obtain rfl := Option.some.inj h
          have e : m ≠ n := fun e => h1 (by subst e; rw [List.cons_prefix_cons]; exact ⟨rfl, List.nil_prefix⟩)
          rw [atT, atT]
          simp only [kids_mk]
          conv => rhs; rw [← low_high t.kids n]
          rw [List.find?_append, List.find?_append, List.find?_cons_of_neg (by simp; exact fun h => e h.symm)]
        · cases h
    · rw [with_leaf hd] at h; cases h

/-- Names that rise, in pairs. -/
theorem rising_pair : ∀ {l : List ByteArray}, rising l = true ↔ l.Pairwise fun a b => cmpB a b < 0
  | [] => by simp [rising]
  | [a] => by simp [rising]
  | a :: b :: r => by
    have ih := rising_pair (l := b :: r)
    rw [rising, Bool.and_eq_true, leB_cmp, ih, List.pairwise_cons (a := a)]
    constructor
    · rintro ⟨h1, h2⟩
      refine ⟨fun x hx => ?_, h2⟩
      rcases List.mem_cons.1 hx with rfl | hx
      · exact of_decide_eq_true h1
      · exact cmpB_trans (of_decide_eq_true h1) ((List.pairwise_cons.1 h2).1 x hx)
    · rintro ⟨h1, h2⟩
      exact ⟨decide_eq_true (h1 b (List.mem_cons_self ..)), h2⟩
theorem rising_sub {a b : List ByteArray} (h : rising b = true) (hs : a.Sublist b) : rising a = true := rising_pair.2 ((rising_pair.1 h).sublist hs)

theorem own_dir {t : Tr α} (hk : t.kind = kDir) : ownE t = 0 ↔ t.data.size = 0 ∧ t.exec = false ∧ (t.kids.map (·.1)).all isName = true ∧ rising (t.kids.map (·.1)) = true := by
  have h1 : ¬ ¬ (t.kind = kFile ∨ t.kind = kDir ∨ t.kind = kLink) := fun h => h (.inr (.inl hk))
  have h2 : t.kind ≠ kFile := by rw [hk]; decide
  have h3 : t.kind ≠ kLink := by rw [hk]; decide
  unfold ownE shapeB
  rw [if_neg h1, if_neg h2, if_pos hk]
  constructor
  · intro h
    split at h; omega
    rename_i k1
    split at h; omega
    split at h; omega
    split at h; omega
    rename_i k4
    split at h; omega
    rename_i k5
    simp at k1 k4 k5
    exact ⟨by simpa using k1.1, k1.2, by simpa using k4, k5⟩
  · rintro ⟨a, b, c, d⟩
    rw [if_neg (by simp [a, b]), if_neg (by simp [h3]; omega), if_neg (by simp [h3]), if_neg (by simp [c]), if_neg (by simp [d])]

/-- Each node of a tree that hangs so deep is well. -/
def Well (d : Nat) (t : Tr α) : Prop := ∀ x ∈ preR t, d + x.1.length ≤ 8 ∧ ownE x.2 = 0
theorem well_iff {d : Nat} {t : Tr α} : Well d t ↔ d ≤ 8 ∧ ownE t = 0 ∧ ∀ k ∈ t.kids, Well (d + 1) k.2 := by
  unfold Well
  constructor
  · intro h
    have h0 := h ([], t) (by rw [preR_cons]; simp)
    refine ⟨by simpa using h0.1, h0.2, fun k hk x hx => ?_⟩
    have := h (k.1 :: x.1, x.2) (by rw [preR_cons]; exact List.mem_cons_of_mem _ (presR_mem.2 ⟨k, hk, x, hx, rfl⟩))
    simp only [List.length_cons] at this
    exact ⟨by omega, this.2⟩
  · rintro ⟨h1, h2, h3⟩ x hx
    rw [preR_cons] at hx
    rcases List.mem_cons.1 hx with rfl | hx
    · exact ⟨by simpa using h1, h2⟩
    · obtain ⟨k, hk, y, hy, rfl⟩ := presR_mem.1 hx
      have := h3 k hk y hy
      simp only [List.length_cons]
      exact ⟨by omega, this.2⟩
theorem right_iff {t : Tr α} : treeE t = 0 ↔ Well 0 t ∧ t.sz ≤ 200 := by
  unfold treeE Well
  rw [pre_R]
  constructor
  · intro h
    have hz := scan_zero h
    refine ⟨fun x hx => ?_, ?_⟩
    · have := hz.1 _ (List.mem_map_of_mem hx)
      exact this
    · have h2 := hz.2 (by rw [preR_cons]; simp)
      rw [← pre_R, pre_len] at h2
      omega
  · rintro ⟨h1, h2⟩
    refine scan_of (fun y hy => ?_) ?_
    · obtain ⟨x, hx, rfl⟩ := List.mem_map.1 hy
      exact h1 x hx
    · rw [← pre_R, pre_len]; omega
theorem mem_high {ks : List (ByteArray × α)} {n : ByteArray} {k : ByteArray × α} {c : List (ByteArray × α)} (hk : highK ks n = k :: c) : k ∈ ks ∧ (∀ x ∈ c, x ∈ ks) ∧ ∀ x ∈ lowK ks n, x ∈ ks := by
  have h := low_high ks n
  rw [hk] at h
  refine ⟨?_, fun x hx => ?_, fun x hx => ?_⟩
  · rw [← h]; simp
  · rw [← h]; simp [hx]
  · rw [← h]; simp [hx]
theorem high_eq {ks : List (ByteArray × α)} {n : ByteArray} {k : ByteArray × α} {c : List (ByteArray × α)} (hk : highK ks n = k :: c) : ks = lowK ks n ++ k :: c := by
  have h := low_high ks n
  rw [hk] at h
  exact h.symm
theorem own_kids {t : Tr α} (h : ownE t = 0) {k : ByteArray × Tr α} (hk : k ∈ t.kids) : t.kind = kDir := by
  by_cases e : t.kind = kDir
  · exact e
  · have := own_leaf h e
    rw [this] at hk
    cases hk
/-- What is left when a node was dropped is well. -/
theorem without_well : ∀ (l : List ByteArray) {d : Nat} {t : Tr α}, Well d t → Well d (withoutT l t) ∧ (withoutT l t).sz ≤ t.sz
  | [], d, t, h => by rw [withoutT]; exact ⟨h, Nat.le_refl _⟩
  | n :: r, d, t, h => by
    cases hk : highK t.kids n with
    | nil => rw [withoutT, hk]; exact ⟨h, Nat.le_refl _⟩
    | cons k c =>
      rw [without_hit hk]
      obtain ⟨h1, h2, h3⟩ := well_iff.1 h
      obtain ⟨m1, m2, m3⟩ := mem_high hk
      have hd := own_kids h2 m1
      obtain ⟨o1, o2, o3, o4⟩ := (own_dir hd).1 h2
      have hks := high_eq hk
      obtain ⟨ih1, ih2⟩ := without_well r (h3 k m1)
      have e1 := Tr.sz_kids t
      rw [hks, Tr.szs_app] at e1
      rw [show k :: c = (k.1, k.2) :: c from rfl, Tr.szs] at e1
      by_cases hr : r = []
      · rw [if_pos hr]
        refine ⟨well_iff.2 ⟨h1, (own_dir (by exact hd)).2 ⟨o1, o2, ?_, ?_⟩, fun x hx => ?_⟩, ?_⟩
        · simp only [kids_mk]
          rw [List.all_eq_true] at o3 ⊢
          intro x hx
          obtain ⟨y, hy, rfl⟩ := List.mem_map.1 hx
          refine o3 _ (List.mem_map_of_mem ?_)
          rcases List.mem_append.1 hy with hy | hy
          · exact m3 y hy
          · exact m2 y hy
        · simp only [kids_mk]
          refine rising_sub o4 (List.Sublist.map _ ?_)
          conv => rhs; rw [hks]
          exact List.Sublist.append (List.Sublist.refl _) (List.sublist_cons_self _ _)
        · simp only [kids_mk] at hx
          rcases List.mem_append.1 hx with hy | hy
          · exact h3 x (m3 x hy)
          · exact h3 x (m2 x hy)
        · rw [Tr.sz, Tr.szs_app]; omega
      · rw [if_neg hr]
        have hnm : (lowK t.kids n ++ (k.1, withoutT r k.2) :: c).map (·.1) = t.kids.map (·.1) := by
          conv => rhs; rw [hks]
          simp
        refine ⟨well_iff.2 ⟨h1, (own_dir (by exact hd)).2 ⟨o1, o2, ?_, ?_⟩, fun x hx => ?_⟩, ?_⟩
        · simp only [kids_mk]; rw [hnm]; exact o3
        · simp only [kids_mk]; rw [hnm]; exact o4
        · simp only [kids_mk] at hx
          rcases List.mem_append.1 hx with hy | hy
          · exact h3 x (m3 x hy)
          · rcases List.mem_cons.1 hy with rfl | hy
            · exact ih1
            · exact h3 x (m2 x hy)
        · rw [Tr.sz, Tr.szs_app, Tr.szs]; omega
theorem without_right {l : List ByteArray} {t : Tr α} (h : treeE t = 0) : treeE (withoutT l t) = 0 := by
  obtain ⟨h1, h2⟩ := right_iff.1 h
  obtain ⟨h3, h4⟩ := without_well l h1
  exact right_iff.2 ⟨h3, by omega⟩
theorem find_high {ks : List (ByteArray × α)} {n : ByteArray} {k : ByteArray × α} (hf : ks.find? (fun x => decide (x.1 = n)) = some k) (hr : rising (ks.map (·.1)) = true) : ∃ c, highK ks n = k :: c ∧ k.1 = n := by
  have hn : k.1 = n := by
    have := List.find?_some hf
    exact of_decide_eq_true this
  cases hk : highK ks n with
  | nil =>
    have h := low_high ks n
    rw [hk, List.append_nil] at h
    rw [← h, find_low] at hf
    cases hf
  | cons j c =>
    refine ⟨c, ?_, hn⟩
    have hks := high_eq hk
    have hj : 0 ≤ cmpB j.1 n := by
      have := List.head_dropWhile_not (fun k : ByteArray × α => decide (cmpB k.1 n < 0)) (l := ks) (by unfold highK at hk; rw [hk]; simp)
      have e : (ks.dropWhile (fun k : ByteArray × α => decide (cmpB k.1 n < 0))).head (by unfold highK at hk; rw [hk]; simp) = j := by
        unfold highK at hk; simp only [hk, List.head_cons]
      rw [e] at this
      simp at this
      exact this
    rw [hks, List.find?_append, find_low, Option.none_or] at hf
    by_cases e : j.1 = n
    · rw [List.find?_cons_of_pos (by simp [e])] at hf
      rw [Option.some.inj hf]
    · rw [List.find?_cons_of_neg (by simp [e])] at hf
      have hm := List.mem_of_find?_eq_some hf
      have hp := rising_pair.1 hr
      rw [hks, List.map_append, List.map_cons] at hp
      have hp2 := (List.pairwise_cons.1 (List.pairwise_append.1 hp).2.1).1 k.1 (List.mem_map_of_mem hm)
      rw [hn] at hp2
      omega
/-- What was dropped is none. -/
theorem without_at : ∀ {l : List ByteArray} {t x : Tr α}, l ≠ [] → treeE t = 0 → atT t l = some x → atT (withoutT l t) l = none
  | [], t, x, h, _, _ => absurd rfl h
  | n :: r, t, x, _, h0, h => by
    rw [atT] at h
    cases hf : t.kids.find? (fun k => decide (k.1 = n)) with
    | none => rw [hf] at h; cases h
    | some k =>
      rw [hf] at h
      obtain ⟨c, hk, hn⟩ := find_high hf (right_rising h0)
      rw [without_hit hk, atT]
      simp only [kids_mk]
      by_cases hr : r = []
      · rw [if_pos hr, List.find?_append, find_low, Option.none_or]
        have : c.find? (fun k => decide (k.1 = n)) = none := by
          rw [List.find?_eq_none]
          intro y hy e
          have hp := rising_pair.1 (right_rising h0)
          rw [high_eq hk, List.map_append, List.map_cons] at hp
          have hp2 := (List.pairwise_cons.1 (List.pairwise_append.1 hp).2.1).1 y.1 (List.mem_map_of_mem hy)
          rw [of_decide_eq_true e, hn] at hp2
          have := (cmpB_eq (a := n) (b := n)).2 rfl
          omega
        rw [this]; rfl
      · rw [if_neg hr, List.find?_append, find_low, Option.none_or, List.find?_cons_of_pos (by simp [hn])]
        exact without_at hr (kid_right h0 (mem_high hk).1) h

/-- What is put by a path. -/
def putOf (t : Tr α) (s : ByteArray) (x : Tr α) : Except Nat (Tr α) :=
  if treeE t = 0 then match splitOf s with
    | none => .error 5
    | some l => match withT x l t with
      | none => .error 6
      | some y => if treeE y = 0 then .ok y else .error (treeE y)
  else .error (treeE t)
/-- What is left when a path was dropped. -/
def dropOf (t : Tr α) (s : ByteArray) : Except Nat (Tr α) :=
  if treeE t = 0 then match splitOf s with
    | none => .error 5
    | some l => if l = [] then .error 3 else match atT t l with
      | none => .error 6
      | some _ => .ok (withoutT l t)
  else .error (treeE t)
end
end Go.Proofs.YtoaedkinlnkkhaaDoor
