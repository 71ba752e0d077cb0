/- Paths in plain words: cutting by a stroke, joining, what a path's names are, the node at names. No condition. · Names joined, as a text, in plain words. No condition. -/
import Derived.Test.YtcdbocbiephpiaaGreatDoorTrO
import Derived.Lib.SplitLaws
namespace Go.Proofs.YtcdbocbiephpiaaGreatDoor
open Go.RowKit

/-- Pieces of a list between strokes. -/
def cutL : List UInt8 → List (List UInt8)
  | [] => [[]]
  | c :: r => if c = 47 then [] :: cutL r else match cutL r with
    | [] => [[c]]
    | p :: ps => (c :: p) :: ps
theorem cutL_ne : ∀ l, cutL l ≠ []
  | [] => by simp [cutL]
  | c :: r => by
    unfold cutL
    split
    · simp
    · split <;> simp
theorem cutL_stroke (r : List UInt8) : cutL (47 :: r) = [] :: cutL r := by rw [cutL, if_pos rfl]
theorem cutL_other {c : UInt8} {r p : List UInt8} {ps : List (List UInt8)} (h : c ≠ 47) (hr : cutL r = p :: ps) : cutL (c :: r) = (c :: p) :: ps := by
  rw [cutL, if_neg h, hr]
/-- Joined, with a stroke ahead of each. -/
def joinL : List (List UInt8) → List UInt8
  | [] => []
  | p :: ps => 47 :: (p ++ joinL ps)
theorem joinL_app (a b : List (List UInt8)) : joinL (a ++ b) = joinL a ++ joinL b := by
  induction a with
  | nil => rfl
  | cons p ps ih => simp only [List.cons_append, joinL, ih, List.append_assoc]
theorem cutL_join : ∀ l p ps, cutL l = p :: ps → p ++ joinL ps = l
  | [], p, ps, h => by simp only [cutL, List.cons.injEq] at h; obtain ⟨rfl, rfl⟩ := h; rfl
  | c :: r, p, ps, h => by
    cases hr : cutL r with
    | nil => exact absurd hr (cutL_ne r)
    | cons q qs =>
      have ih := cutL_join r q qs hr
      by_cases hc : c = 47
      · subst hc
        rw [cutL_stroke, hr] at h
        simp only [List.cons.injEq] at h
        obtain ⟨rfl, rfl⟩ := h
        rw [joinL, ih]; rfl
      · rw [cutL_other hc hr] at h
        simp only [List.cons.injEq] at h
        obtain ⟨rfl, rfl⟩ := h
        rw [List.cons_append, ih]
theorem cutL_plain : ∀ (p r : List UInt8), (∀ c ∈ p, c ≠ 47) → cutL (p ++ r) = match cutL r with | [] => [p] | q :: qs => (p ++ q) :: qs
  | [], r, _ => by
    cases hr : cutL r with
    | nil => exact absurd hr (cutL_ne r)
    | cons q qs => simp [hr]
  | c :: p, r, h => by
    have ih := cutL_plain p r (fun x hx => h x (List.mem_cons_of_mem _ hx))
    cases hr : cutL r with
    | nil => exact absurd hr (cutL_ne r)
    | cons q qs =>
      rw [hr] at ih
      rw [List.cons_append, cutL_other (h c (List.mem_cons_self ..)) ih]
      rfl
theorem cutL_joined : ∀ (ps : List (List UInt8)), ps ≠ [] → (∀ p ∈ ps, ∀ c ∈ p, c ≠ 47) → cutL (joinL ps) = [] :: ps
  | [p], _, h => by
    rw [joinL, cutL_stroke]
    have := cutL_plain p [] (h p (List.mem_cons_self ..))
    rw [joinL, this]; simp [cutL]
  | p :: q :: ps, _, h => by
    have ih := cutL_joined (q :: ps) (by simp) (fun x hx => h x (List.mem_cons_of_mem _ hx))
    rw [joinL, cutL_stroke]
    have := cutL_plain p (joinL (q :: ps)) (h p (List.mem_cons_self ..))
    rw [ih] at this
    rw [this]; simp

open Go.Lib in
theorem splitK_cut : ∀ l : List UInt8, splitK [47] 0 (count l [47]) l = cutL l
  | [] => by rw [count_miss (by simp [index])]; rfl
  | c :: r => by
    have ih := splitK_cut r
    by_cases hc : c = 47
    · subst hc
      have hix : index ((47 : UInt8) :: r) [47] = ((0 : Nat) : Int) := by rw [index]; simp [List.isPrefixOf]
      rw [count_cons_eq, Nat.add_comm 1, splitK, hix, cutL_stroke, ← ih]
      simp
    · have hp : ([47] : List UInt8).isPrefixOf (c :: r) = false := by simp [List.isPrefixOf, Ne.symm hc]
      have hix : index (c :: r) [47] = if index r [47] == -1 then -1 else index r [47] + 1 := by rw [index, hp]; simp
      rw [count_cons_ne c 47 r hc]
      cases hk : count r [47] with
      | zero =>
        rw [hk] at ih
        rw [splitK] at ih ⊢
        rw [cutL_other hc ih.symm]
      | succ k =>
        rw [hk] at ih
        have hne : ¬ index r [47] = -1 := fun e => by rw [count_miss e] at hk; omega
        have hge := index_ge r [47]
        obtain ⟨j, hj⟩ : ∃ j : Nat, index r [47] = j := ⟨(index r [47]).toNat, by omega⟩
        have hix' : index (c :: r) [47] = ((j + 1 : Nat) : Int) := by rw [hix, if_neg (fun e => hne (beq_iff_eq.1 e)), hj]; omega
        have b1 : ¬ ((((j + 1 : Nat) : Int) == -1) = true) := fun e => by have := beq_iff_eq.1 e; omega
        have b2 : ¬ (((j : Int) == -1) = true) := fun e => by have := beq_iff_eq.1 e; omega
        rw [splitK, hj, if_neg b2] at ih
        rw [splitK, hix', if_neg b1, cutL_other hc ih.symm]
        simp

/-- Pieces of a text between strokes. -/
def pieces (s : ByteArray) : List ByteArray := (cutL s.data.toList).map fun l => ⟨l.toArray⟩
theorem pieces_map (s : ByteArray) : (pieces s).map (·.data.toList) = cutL s.data.toList := by unfold pieces; rw [List.map_map]; exact (List.map_congr_left (fun l _ => rfl)).trans (List.map_id _)
theorem pieces_ne (s : ByteArray) : pieces s ≠ [] := by
  unfold pieces
  intro h
  exact cutL_ne _ (List.map_eq_nil_iff.1 h)
theorem ba_inj {a b : ByteArray} (h : a.data.toList = b.data.toList) : a = b := Go.WideShapes.bytes_inj h
theorem ba_map_inj : ∀ {a b : List ByteArray}, a.map (·.data.toList) = b.map (·.data.toList) → a = b
  | [], [], _ => rfl
  | x :: a, [], h => by simp at h
  | [], y :: b, h => by simp at h
  | x :: a, y :: b, h => by
    simp only [List.map_cons, List.cons.injEq] at h
    rw [ba_inj h.1, ba_map_inj h.2]
theorem split_pieces (s : ByteArray) : Lib.splitB ⟨#[47]⟩ 0 (Lib.countB s ⟨#[47]⟩) s = pieces s := by
  apply ba_map_inj
  rw [Lib.splitB_data, pieces_map]
  exact splitK_cut _
theorem pieces_len (s : ByteArray) : Lib.countB s ⟨#[47]⟩ + 1 = (pieces s).length := by
  rw [← split_pieces, Lib.splitB_all ⟨#[47]⟩ (by decide) 0 _ s rfl]
theorem pieces_size {s : ByteArray} {p : ByteArray} (h : p ∈ pieces s) : p.size ≤ s.size := by
  have hsz : ∀ (l : List UInt8), ∀ q ∈ cutL l, q.length ≤ l.length := by
    intro l
    induction l with
    | nil => intro q hq; simp only [cutL, List.mem_cons, List.not_mem_nil, or_false] at hq; subst hq; simp
    | cons c r ih =>
      intro q hq
      cases hr : cutL r with
      | nil => exact absurd hr (cutL_ne r)
      | cons x xs =>
        rw [hr] at ih
        by_cases hc : c = 47
        · subst hc
          rw [cutL_stroke, hr] at hq
          rcases List.mem_cons.1 hq with rfl | hq
          · simp
          · have := ih q hq; simp; omega
        · rw [cutL_other hc hr] at hq
          rcases List.mem_cons.1 hq with rfl | hq
          · have := ih x (List.mem_cons_self ..); simp; omega
          · have := ih q (List.mem_cons_of_mem _ hq); simp; omega
  unfold pieces at h
  obtain ⟨l, hl, rfl⟩ := List.mem_map.1 h
  have := hsz _ l hl
  have e1 : (⟨l.toArray⟩ : ByteArray).size = l.length := rfl
  have e2 : s.data.toList.length = s.size := by simp
  omega

/-- The names of a path; none: it is no path. -/
def splitOf (s : ByteArray) : Option (List ByteArray) :=
  if s.data.toList = [47] then some [] else match pieces s with
    | [] => none
    | a :: r => if a.data.toList = [] ∧ 1 ≤ r.length ∧ r.length ≤ 8 ∧ r.all isName = true then some r else none
theorem splitOf_stroke {s : ByteArray} (h : s.data.toList = [47]) : splitOf s = some [] := if_pos h
theorem splitOf_pieces {s a : ByteArray} {r : List ByteArray} (h : s.data.toList ≠ [47]) (hp : pieces s = a :: r) : splitOf s = if a.data.toList = [] ∧ 1 ≤ r.length ∧ r.length ≤ 8 ∧ r.all isName = true then some r else none := by
  rw [splitOf, if_neg h, hp]
def joined (l : List ByteArray) : List UInt8 := joinL (l.map (·.data.toList))
theorem splitOf_join {s : ByteArray} {l : List ByteArray} (h : splitOf s = some l) : (s.data.toList = [47] ∧ l = []) ∨ (s.data.toList ≠ [47] ∧ l ≠ [] ∧ joined l = s.data.toList) := by
  by_cases h0 : s.data.toList = [47]
  · rw [splitOf_stroke h0] at h; exact .inl ⟨h0, (Option.some.inj h).symm⟩
  · right
    cases hp : pieces s with
    | nil => exact absurd hp (pieces_ne s)
    | cons a r =>
      rw [splitOf_pieces h0 hp] at h
      split at h
      · rename_i hc
        obtain rfl := Option.some.inj h
        refine ⟨h0, fun e => by rw [e] at hc; simp at hc, ?_⟩
        have hm := pieces_map s
        rw [hp, List.map_cons] at hm
        have := cutL_join _ _ _ hm.symm
        rw [hc.1] at this
        exact this
      · cases h
theorem splitOf_names {s : ByteArray} {l : List ByteArray} (h : splitOf s = some l) : l.length ≤ 8 ∧ l.all isName = true := by
  by_cases h0 : s.data.toList = [47]
  · rw [splitOf_stroke h0] at h
    obtain rfl := Option.some.inj h
    exact ⟨by simp, by simp⟩
  · cases hp : pieces s with
    | nil => exact absurd hp (pieces_ne s)
    | cons a r =>
      rw [splitOf_pieces h0 hp] at h
      split at h
      · rename_i hc
        obtain rfl := Option.some.inj h
        exact ⟨hc.2.2.1, hc.2.2.2⟩
      · cases h
/-- Names that hold no stroke, joined. -/
theorem splitOf_joined {s : ByteArray} {l : List ByteArray} (hne : l ≠ []) (hl : ∀ x ∈ l, ∀ c ∈ x.data.toList, c ≠ 47) (hs : s.data.toList = joined l) :
    splitOf s = if l = [⟨#[]⟩] then some [] else if l.length ≤ 8 ∧ l.all isName = true then some l else none := by
  have hc := cutL_joined (l.map (·.data.toList)) (by simpa using hne) (fun p hp => by
    obtain ⟨x, hx, rfl⟩ := List.mem_map.1 hp
    exact hl x hx)
  have hp : pieces s = ⟨#[]⟩ :: l := by
    apply ba_map_inj
    rw [pieces_map, hs]
    exact hc
  by_cases h1 : l = [⟨#[]⟩]
  · subst h1
    rw [if_pos rfl]
    exact splitOf_stroke (by rw [hs]; rfl)
  · rw [if_neg h1]
    have h0 : s.data.toList ≠ [47] := fun e => by
      rw [hs] at e
      have e2 := hc
      unfold joined at e
      rw [e] at e2
      have e3 : l.map (·.data.toList) = [[]] := by
        have : cutL [47] = [[], []] := by decide
        rw [this] at e2
        simpa using e2.symm
      refine h1 (ba_map_inj ?_)
      rw [e3]; rfl
    rw [splitOf_pieces h0 hp]
    have hlen : 1 ≤ l.length := by
      cases l with
      | nil => exact absurd rfl hne
      | cons x r => simp
    by_cases h2 : l.length ≤ 8 ∧ l.all isName = true
    · rw [if_pos h2, if_pos ⟨rfl, hlen, h2⟩]
    · rw [if_neg h2, if_neg (fun h => h2 h.2.2)]
theorem isName_plain {s : ByteArray} (h : isName s = true) : ∀ c ∈ s.data.toList, c ≠ 47 := by
  unfold isName at h
  simp only [Bool.and_eq_true, List.all_eq_true] at h
  intro c hc e
  have := h.1.1.1.1 c hc
  subst e
  revert this
  decide

/-- The node at names. -/
def atT {α : Type} : Tr α → List ByteArray → Option (Tr α)
  | t, [] => some t
  | t, n :: r => (t.kids.find? fun k => decide (k.1 = n)).bind fun k => atT k.2 r
end Go.Proofs.YtcdbocbiephpiaaGreatDoor

namespace Go.Proofs.YtcdbocbiephpiaaGreatDoor
open Go.RowKit
/-- Names joined, as a text. -/
def jt (l : List ByteArray) : ByteArray := ⟨(joined l).toArray⟩
theorem jt_data (l : List ByteArray) : (jt l).data.toList = joined l := rfl
theorem jt_nil : jt [] = ⟨#[]⟩ := rfl
theorem jt_snoc (l : List ByteArray) (x : ByteArray) : jt (l ++ [x]) = sub (jt l) x := by
  apply ba_inj
  rw [jt_data]
  unfold sub joined
  rw [List.map_append, joinL_app]
  simp [jt, joined, joinL]
theorem jt_size (l : List ByteArray) : (jt l).size = (joined l).length := rfl
theorem joined_take (l : List ByteArray) (i : Nat) : (joined (l.take i)).length ≤ (joined l).length := by
  have e : joined l = joined (l.take i) ++ joined (l.drop i) := by
    unfold joined
    rw [← joinL_app, ← List.map_append, List.take_append_drop]
  rw [e, List.length_append]; omega
theorem jt_take {l : List ByteArray} {i : Nat} (h : i < l.length) : jt (l.take (i + 1)) = sub (jt (l.take i)) l[i] := by
  rw [List.take_succ_eq_append_getElem h, jt_snoc]
theorem sub_size (p n : ByteArray) : (sub p n).size = p.size + 1 + n.size := by
  unfold sub; rw [ByteArray.size_append, ByteArray.size_append]; rfl
theorem joined_bd {l : List ByteArray} (h : ∀ x ∈ l, x.size ≤ 30) : (joined l).length ≤ 31 * l.length := by
  induction l with
  | nil => simp [joined, joinL]
  | cons x r ih =>
    have h1 := ih (fun y hy => h y (List.mem_cons_of_mem _ hy))
    have h2 := h x (List.mem_cons_self ..)
    have h3 : x.data.toList.length = x.size := by simp
    unfold joined at h1 ⊢
    simp only [List.map_cons, joinL, List.length_cons, List.length_append]
    omega

end Go.Proofs.YtcdbocbiephpiaaGreatDoor
