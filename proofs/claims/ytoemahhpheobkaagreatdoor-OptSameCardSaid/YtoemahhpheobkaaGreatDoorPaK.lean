/- Paths in plain words: cutting by a stroke, joining, what a path's names are, the node at names. No condition. · Names joined, as a text, in plain words. No condition. · The contracts of slices.Clone over kids and of tree.Copy. Condition: the tree is there, and has few nodes. · The order of names; the contracts of slices.BinarySearchFunc over kids and of path.kid. Condition: the tree is there, its names rise. -/
import Derived.Test.YtoemahhpheobkaaGreatDoorTrO
import Derived.Lib.SplitLaws
import Derived.Test.YtoemahhpheobkaaGreatDoorRf
import Derived.Test.YtoemahhpheobkaaGreatDoorShelf
namespace Go.Proofs.YtoemahhpheobkaaGreatDoor
open Go.RowKit

/-- Pieces of a list between strokes. -/
def cutL : List UInt8 → List (List UInt8)
  | [] => [[]]
  | c :: r => if c = 47 then [] :: cutL r else match cutL r with
    | [] => [[c]]
    | p :: ps => (c :: p) :: ps
theorem cutL_ne : ∀ l, cutL l ≠ []
  | [] => by simp [cutL]
  | c :: r => by
    unfold cutL
    split
    · simp
    · split <;> simp
theorem cutL_stroke (r : List UInt8) : cutL (47 :: r) = [] :: cutL r := by rw [cutL, if_pos rfl]
theorem cutL_other {c : UInt8} {r p : List UInt8} {ps : List (List UInt8)} (h : c ≠ 47) (hr : cutL r = p :: ps) : cutL (c :: r) = (c :: p) :: ps := by
  rw [cutL, if_neg h, hr]
/-- Joined, with a stroke ahead of each. -/
def joinL : List (List UInt8) → List UInt8
  | [] => []
  | p :: ps => 47 :: (p ++ joinL ps)
theorem joinL_app (a b : List (List UInt8)) : joinL (a ++ b) = joinL a ++ joinL b := by
  induction a with
  | nil => rfl
  | cons p ps ih => simp only [List.cons_append, joinL, ih, List.append_assoc]
theorem cutL_join : ∀ l p ps, cutL l = p :: ps → p ++ joinL ps = l
  | [], p, ps, h => by simp only [cutL, List.cons.injEq] at h; obtain ⟨rfl, rfl⟩ := h; rfl
  | c :: r, p, ps, h => by
    cases hr : cutL r with
    | nil => exact absurd hr (cutL_ne r)
    | cons q qs =>
      have ih := cutL_join r q qs hr
      by_cases hc : c = 47
      · subst hc
        rw [cutL_stroke, hr] at h
        simp only [List.cons.injEq] at h
        obtain ⟨rfl, rfl⟩ := h
        rw [joinL, ih]; rfl
      · rw [cutL_other hc hr] at h
        simp only [List.cons.injEq] at h
        obtain ⟨rfl, rfl⟩ := h
        rw [List.cons_append, ih]
theorem cutL_plain : ∀ (p r : List UInt8), (∀ c ∈ p, c ≠ 47) → cutL (p ++ r) = match cutL r with | [] => [p] | q :: qs => (p ++ q) :: qs
  | [], r, _ => by
    cases hr : cutL r with
    | nil => exact absurd hr (cutL_ne r)
    | cons q qs => simp [hr]
  | c :: p, r, h => by
    have ih := cutL_plain p r (fun x hx => h x (List.mem_cons_of_mem _ hx))
    cases hr : cutL r with
    | nil => exact absurd hr (cutL_ne r)
    | cons q qs =>
      rw [hr] at ih
      rw [List.cons_append, cutL_other (h c (List.mem_cons_self ..)) ih]
      rfl
theorem cutL_joined : ∀ (ps : List (List UInt8)), ps ≠ [] → (∀ p ∈ ps, ∀ c ∈ p, c ≠ 47) → cutL (joinL ps) = [] :: ps
  | [p], _, h => by
    rw [joinL, cutL_stroke]
    have := cutL_plain p [] (h p (List.mem_cons_self ..))
    rw [joinL, this]; simp [cutL]
  | p :: q :: ps, _, h => by
    have ih := cutL_joined (q :: ps) (by simp) (fun x hx => h x (List.mem_cons_of_mem _ hx))
    rw [joinL, cutL_stroke]
    have := cutL_plain p (joinL (q :: ps)) (h p (List.mem_cons_self ..))
    rw [ih] at this
    rw [this]; simp

open Go.Lib in
theorem splitK_cut : ∀ l : List UInt8, splitK [47] 0 (count l [47]) l = cutL l
  | [] => by rw [count_miss (by simp [index])]; rfl
  | c :: r => by
    have ih := splitK_cut r
    by_cases hc : c = 47
    · subst hc
      have hix : index ((47 : UInt8) :: r) [47] = ((0 : Nat) : Int) := by rw [index]; simp [List.isPrefixOf]
      rw [count_cons_eq, Nat.add_comm 1, splitK, hix, cutL_stroke, ← ih]
      simp
    · have hp : ([47] : List UInt8).isPrefixOf (c :: r) = false := by simp [List.isPrefixOf, Ne.symm hc]
      have hix : index (c :: r) [47] = if index r [47] == -1 then -1 else index r [47] + 1 := by rw [index, hp]; simp
      rw [count_cons_ne c 47 r hc]
      cases hk : count r [47] with
      | zero =>
        rw [hk] at ih
        rw [splitK] at ih ⊢
        rw [cutL_other hc ih.symm]
      | succ k =>
        rw [hk] at ih
        have hne : ¬ index r [47] = -1 := fun e => by rw [count_miss e] at hk; omega
        have hge := index_ge r [47]
        obtain ⟨j, hj⟩ : ∃ j : Nat, index r [47] = j := ⟨(index r [47]).toNat, by omega⟩
        have hix' : index (c :: r) [47] = ((j + 1 : Nat) : Int) := by rw [hix, if_neg (fun e => hne (beq_iff_eq.1 e)), hj]; omega
        have b1 : ¬ ((((j + 1 : Nat) : Int) == -1) = true) := fun e => by have := beq_iff_eq.1 e; omega
        have b2 : ¬ (((j : Int) == -1) = true) := fun e => by have := beq_iff_eq.1 e; omega
        rw [splitK, hj, if_neg b2] at ih
        rw [splitK, hix', if_neg b1, cutL_other hc ih.symm]
        simp

/-- Pieces of a text between strokes. -/
def pieces (s : ByteArray) : List ByteArray := (cutL s.data.toList).map fun l => ⟨l.toArray⟩
theorem pieces_map (s : ByteArray) : (pieces s).map (·.data.toList) = cutL s.data.toList := by unfold pieces; rw [List.map_map]; exact (List.map_congr_left (fun l _ => rfl)).trans (List.map_id _)
theorem pieces_ne (s : ByteArray) : pieces s ≠ [] := by
  unfold pieces
  intro h
  exact cutL_ne _ (List.map_eq_nil_iff.1 h)
theorem ba_inj {a b : ByteArray} (h : a.data.toList = b.data.toList) : a = b := Go.WideShapes.bytes_inj h
theorem ba_map_inj : ∀ {a b : List ByteArray}, a.map (·.data.toList) = b.map (·.data.toList) → a = b
  | [], [], _ => rfl
  | x :: a, [], h => by simp at h
  | [], y :: b, h => by simp at h
  | x :: a, y :: b, h => by
    simp only [List.map_cons, List.cons.injEq] at h
    rw [ba_inj h.1, ba_map_inj h.2]
theorem split_pieces (s : ByteArray) : Lib.splitB ⟨#[47]⟩ 0 (Lib.countB s ⟨#[47]⟩) s = pieces s := by
  apply ba_map_inj
  rw [Lib.splitB_data, pieces_map]
  exact splitK_cut _
theorem pieces_len (s : ByteArray) : Lib.countB s ⟨#[47]⟩ + 1 = (pieces s).length := by
  rw [← split_pieces, Lib.splitB_all ⟨#[47]⟩ (by decide) 0 _ s rfl]
theorem pieces_size {s : ByteArray} {p : ByteArray} (h : p ∈ pieces s) : p.size ≤ s.size := by
  have hsz : ∀ (l : List UInt8), ∀ q ∈ cutL l, q.length ≤ l.length := by
    intro l
    induction l with
    | nil => intro q hq; simp only [cutL, List.mem_cons, List.not_mem_nil, or_false] at hq; subst hq; simp
    | cons c r ih =>
      intro q hq
      cases hr : cutL r with
      | nil => exact absurd hr (cutL_ne r)
      | cons x xs =>
        rw [hr] at ih
        by_cases hc : c = 47
        · subst hc
          rw [cutL_stroke, hr] at hq
          rcases List.mem_cons.1 hq with rfl | hq
          · simp
          · have := ih q hq; simp; omega
        · rw [cutL_other hc hr] at hq
          rcases List.mem_cons.1 hq with rfl | hq
          · have := ih x (List.mem_cons_self ..); simp; omega
          · have := ih q (List.mem_cons_of_mem _ hq); simp; omega
  unfold pieces at h
  obtain ⟨l, hl, rfl⟩ := List.mem_map.1 h
  have := hsz _ l hl
  have e1 : (⟨l.toArray⟩ : ByteArray).size = l.length := rfl
  have e2 : s.data.toList.length = s.size := by simp
  omega

/-- The names of a path; none: it is no path. -/
def splitOf (s : ByteArray) : Option (List ByteArray) :=
  if s.data.toList = [47] then some [] else match pieces s with
    | [] => none
    | a :: r => if a.data.toList = [] ∧ 1 ≤ r.length ∧ r.length ≤ 8 ∧ r.all isName = true then some r else none
theorem splitOf_stroke {s : ByteArray} (h : s.data.toList = [47]) : splitOf s = some [] := if_pos h
theorem splitOf_pieces {s a : ByteArray} {r : List ByteArray} (h : s.data.toList ≠ [47]) (hp : pieces s = a :: r) : splitOf s = if a.data.toList = [] ∧ 1 ≤ r.length ∧ r.length ≤ 8 ∧ r.all isName = true then some r else none := by
  rw [splitOf, if_neg h, hp]
def joined (l : List ByteArray) : List UInt8 := joinL (l.map (·.data.toList))
theorem splitOf_join {s : ByteArray} {l : List ByteArray} (h : splitOf s = some l) : (s.data.toList = [47] ∧ l = []) ∨ (s.data.toList ≠ [47] ∧ l ≠ [] ∧ joined l = s.data.toList) := by
  by_cases h0 : s.data.toList = [47]
  · rw [splitOf_stroke h0] at h; exact .inl ⟨h0, (Option.some.inj h).symm⟩
  · right
    cases hp : pieces s with
    | nil => exact absurd hp (pieces_ne s)
    | cons a r =>
      rw [splitOf_pieces h0 hp] at h
      split at h
      · rename_i hc
        obtain rfl := Option.some.inj h
        refine ⟨h0, fun e => by rw [e] at hc; simp at hc, ?_⟩
        have hm := pieces_map s
        rw [hp, List.map_cons] at hm
        have := cutL_join _ _ _ hm.symm
        rw [hc.1] at this
        exact this
      · cases h
theorem splitOf_names {s : ByteArray} {l : List ByteArray} (h : splitOf s = some l) : l.length ≤ 8 ∧ l.all isName = true := by
  by_cases h0 : s.data.toList = [47]
  · rw [splitOf_stroke h0] at h
    obtain rfl := Option.some.inj h
    exact ⟨by simp, by simp⟩
  · cases hp : pieces s with
    | nil => exact absurd hp (pieces_ne s)
    | cons a r =>
      rw [splitOf_pieces h0 hp] at h
      split at h
      · rename_i hc
        obtain rfl := Option.some.inj h
        exact ⟨hc.2.2.1, hc.2.2.2⟩
      · cases h
/-- Names that hold no stroke, joined. -/
theorem splitOf_joined {s : ByteArray} {l : List ByteArray} (hne : l ≠ []) (hl : ∀ x ∈ l, ∀ c ∈ x.data.toList, c ≠ 47) (hs : s.data.toList = joined l) :
    splitOf s = if l = [⟨#[]⟩] then some [] else if l.length ≤ 8 ∧ l.all isName = true then some l else none := by
  have hc := cutL_joined (l.map (·.data.toList)) (by simpa using hne) (fun p hp => by
    obtain ⟨x, hx, rfl⟩ := List.mem_map.1 hp
    exact hl x hx)
  have hp : pieces s = ⟨#[]⟩ :: l := by
    apply ba_map_inj
    rw [pieces_map, hs]
    exact hc
  by_cases h1 : l = [⟨#[]⟩]
  · subst h1
    rw [if_pos rfl]
    exact splitOf_stroke (by rw [hs]; rfl)
  · rw [if_neg h1]
    have h0 : s.data.toList ≠ [47] := fun e => by
      rw [hs] at e
      have e2 := hc
      unfold joined at e
      rw [e] at e2
      have e3 : l.map (·.data.toList) = [[]] := by
        have : cutL [47] = [[], []] := by decide
        rw [this] at e2
        simpa using e2.symm
      refine h1 (ba_map_inj ?_)
      rw [e3]; rfl
    rw [splitOf_pieces h0 hp]
    have hlen : 1 ≤ l.length := by
      cases l with
      | nil => exact absurd rfl hne
      | cons x r => simp
    by_cases h2 : l.length ≤ 8 ∧ l.all isName = true
    · rw [if_pos h2, if_pos ⟨rfl, hlen, h2⟩]
    · rw [if_neg h2, if_neg (fun h => h2 h.2.2)]
theorem isName_plain {s : ByteArray} (h : isName s = true) : ∀ c ∈ s.data.toList, c ≠ 47 := by
  unfold isName at h
  simp only [Bool.and_eq_true, List.all_eq_true] at h
  intro c hc e
  have := h.1.1.1.1 c hc
  subst e
  revert this
  decide

/-- The node at names. -/
def atT {α : Type} : Tr α → List ByteArray → Option (Tr α)
  | t, [] => some t
  | t, n :: r => (t.kids.find? fun k => decide (k.1 = n)).bind fun k => atT k.2 r
end Go.Proofs.YtoemahhpheobkaaGreatDoor

namespace Go.Proofs.YtoemahhpheobkaaGreatDoor
open Go.RowKit
/-- Names joined, as a text. -/
def jt (l : List ByteArray) : ByteArray := ⟨(joined l).toArray⟩
theorem jt_data (l : List ByteArray) : (jt l).data.toList = joined l := rfl
theorem jt_nil : jt [] = ⟨#[]⟩ := rfl
theorem jt_snoc (l : List ByteArray) (x : ByteArray) : jt (l ++ [x]) = sub (jt l) x := by
  apply ba_inj
  rw [jt_data]
  unfold sub joined
  rw [List.map_append, joinL_app]
  simp [jt, joined, joinL]
theorem jt_size (l : List ByteArray) : (jt l).size = (joined l).length := rfl
theorem joined_take (l : List ByteArray) (i : Nat) : (joined (l.take i)).length ≤ (joined l).length := by
  have e : joined l = joined (l.take i) ++ joined (l.drop i) := by
    unfold joined
    rw [← joinL_app, ← List.map_append, List.take_append_drop]
  rw [e, List.length_append]; omega
theorem jt_take {l : List ByteArray} {i : Nat} (h : i < l.length) : jt (l.take (i + 1)) = sub (jt (l.take i)) l[i] := by
  rw [List.take_succ_eq_append_getElem h, jt_snoc]
theorem sub_size (p n : ByteArray) : (sub p n).size = p.size + 1 + n.size := by
  unfold sub; rw [ByteArray.size_append, ByteArray.size_append]; rfl
theorem joined_bd {l : List ByteArray} (h : ∀ x ∈ l, x.size ≤ 30) : (joined l).length ≤ 31 * l.length := by
  induction l with
  | nil => simp [joined, joinL]
  | cons x r ih =>
    have h1 := ih (fun y hy => h y (List.mem_cons_of_mem _ hy))
    have h2 := h x (List.mem_cons_self ..)
    have h3 : x.data.toList.length = x.size := by simp
    unfold joined at h1 ⊢
    simp only [List.map_cons, joinL, List.length_cons, List.length_append]
    omega

end Go.Proofs.YtoemahhpheobkaaGreatDoor

namespace Go.Proofs.YtoemahhpheobkaaGreatDoor
open Go.RowKit

/-- Is a slice nil? -/
@[go_sem] theorem run_eql_kids_nil {P : Program} (w : World) (t e : TypeId) (a : Option Addr) (l c : Nat) (h : P.underlying t = some (.slice e)) : (Go.binOp .eql t (.slice a l c) (.slice none 0 0)).run P w = .ok (.bool a.isNone) w := by
  simp only [Go.binOp]
  simp [Go.run_equal_slice_nil w t e a l c h]

theorem sl_at5 {w : World} {a : Option Addr} {n cap : Nat} {l : List (ByteArray × Lt)} (h : Sl w (.slice a n cap) (kcells l) l.length 5) {i : Nat} (hi : i < l.length) :
    ∃ b off, a = some ⟨b, off, none⟩ ∧ b < w.heap.size ∧ w.cell? ⟨b, off + i * 5, none⟩ = some (.string l[i].1) ∧ w.cell? ⟨b, off + i * 5 + 1, none⟩ = some (.string l[i].2.kind) ∧ w.cell? ⟨b, off + i * 5 + 2, none⟩ = some (.string l[i].2.data) ∧ w.cell? ⟨b, off + i * 5 + 3, none⟩ = some (.bool l[i].2.exec) ∧ w.cell? ⟨b, off + i * 5 + 4, none⟩ = some l[i].2.v := by
  obtain ⟨a', cap', he, h1, h2, h2', h3⟩ := h
  simp only [Value.slice.injEq] at he
  obtain ⟨rfl, rfl, rfl⟩ := he
  rcases h3 with h3 | ⟨b, off, rfl, h4, h5⟩
  · omega
  · have hl := kcells_len l
    obtain ⟨k0, k1, k2, k3, k4⟩ := kcells_at l i hi
    refine ⟨b, off, rfl, h4, ?_, ?_, ?_, ?_, ?_⟩
    · rw [h5 _ (by omega)]; rw [List.getElem?_eq_getElem (by omega)] at k0; exact k0
    · rw [Nat.add_assoc, h5 _ (by omega)]; rw [List.getElem?_eq_getElem (by omega)] at k1; exact k1
    · rw [Nat.add_assoc, h5 _ (by omega)]; rw [List.getElem?_eq_getElem (by omega)] at k2; exact k2
    · rw [Nat.add_assoc, h5 _ (by omega)]; rw [List.getElem?_eq_getElem (by omega)] at k3; exact k3
    · rw [Nat.add_assoc, h5 _ (by omega)]; rw [List.getElem?_eq_getElem (by omega)] at k4; exact k4

set_option maxRecDepth 100000 in
theorem clone_kids (v : Value) (ks : List (ByteArray × Lt)) (w : World) (h : Sl w v (kcells ks) ks.length 5) (ho : Oks w ks) (h5 : ks.length ≤ 1000) :
    Calls Tryz.prog 67 #[v] w fun e w' => ∃ a cap, e = .returned (.slice a ks.length cap) ∧ Ow (fun g => w.heap.size ≤ g) w' 85 5 (.slice a ks.length cap) ks.length (kcells ks) ∧ Below w.heap.size w w' := by
  obtain ⟨i0, hi, hz0, hz1, hz2⟩ := info_parts infoKid
  have h1 := one_kcells ks w ho
  obtain ⟨a, cap, rfl, hl, hn, hm, h3⟩ := id h
  cases a with
  | none =>
    have hk : ks = [] := by
      rcases h3 with h3 | ⟨b, off, e, -⟩
      · exact List.eq_nil_of_length_eq_zero h3
      · cases e
    subst hk
    clear h ho h1 h3 hl
    simp only [List.length_nil]
    go_enter Tryz.func67, Tryz.ntmps67
    go_wp2_with fail
    go_ret
    exact ⟨none, 0, rfl, Ow.nil _ _ _ _, Below.refl _ _⟩
  | some ad =>
    have hs := Src.sl (P := Tryz.prog) (tx := 30) Tryz.underlying30 (h.ob ((Below.refl w.heap.size w).alloc (Nat.le_refl _) (.cells #[] 85)) (Nat.le_refl _)) h1
    have hown : Ow (fun g => w.heap.size ≤ g) (w.alloc (.cells #[] 85)) 85 5 (.slice (some ⟨w.heap.size, 0, none⟩) 0 0) 0 [] :=
      ⟨by simp, .inr ⟨w.heap.size, 0, 0, #[], rfl, Nat.le_refl _, heap_alloc_new w _, Nat.le_refl _, by unfold maxLen; omega, by simp, by simp⟩⟩
    obtain ⟨n, hnn⟩ : ∃ n, ks.length = n := ⟨_, rfl⟩
    obtain ⟨cs, hcs⟩ : ∃ cs, kcells ks = cs := ⟨_, rfl⟩
    rw [hnn, hcs] at hs
    rw [hnn] at h5
    rw [hnn, hcs]
    clear h ho h1 h3 hl hn hnn hcs
    go_enter Tryz.func67, Tryz.ntmps67
    go_wp2_with (at_builtin; refine wpList_append_ow _ rfl _ _ 30 30 rfl (fun g => w.heap.size ≤ g) ?cF 85 i0 _ 5 80 Tryz.underlying30 hi hz0 hz1 hz2 rfl (by decide) _ _ _ rfl hown _ _ _ rfl hs ?c3 ?c4 ?_)
    case cF => intro g hg; simp at hg; omega
    case c3 => unfold maxLen; omega
    case c4 => omega
    intro v' w1 hown' hgrow
    obtain ⟨a', cap', rfl⟩ := hown'.shape
    go_wp2
    go_ret
    refine ⟨a', cap', by simp, by simpa using hown', ((Below.refl _ _).alloc (Nat.le_refl _) _).grown hgrow (by simp) (fun k hk => ?_)⟩
    simp [Value.ownBlock] at hk; omega

/-- A kid's node set in a row of kids. -/
theorem kcells_put (a b : List (ByteArray × Lt)) (n : ByteArray) (y : Lt) (k d : ByteArray) (e : Bool) (v : Value) (ks : List (ByteArray × Lt)) :
    ((((kcells (a ++ (n, y) :: b)).set (a.length * 5 + 1) (.string k)).set (a.length * 5 + 2) (.string d)).set (a.length * 5 + 3) (.bool e)).set (a.length * 5 + 4) v = kcells (a ++ (n, .mk k d e v ks) :: b) := by
  have hl := kcells_len a
  have e1 : kcells (a ++ (n, y) :: b) = kcells a ++ (.string n :: .string y.kind :: .string y.data :: .bool y.exec :: y.v :: kcells b) := by simp [kcells, ncells]
  have e2 : kcells (a ++ (n, (.mk k d e v ks : Lt)) :: b) = kcells a ++ (.string n :: .string k :: .string d :: .bool e :: v :: kcells b) := by simp [kcells, ncells, Tr.kind, Tr.data, Tr.exec, Tr.v]
  rw [e1, e2, ← hl, List.set_append_right _ _ (by omega), List.set_append_right _ _ (by omega), List.set_append_right _ _ (by omega), List.set_append_right _ _ (by omega)]
  simp only [Nat.add_sub_cancel_left]
  rfl

/-- The world behind a kid's node was set. -/
def put4 (w5 : World) (g o : Nat) (k d : ByteArray) (e : Bool) (v : Value) : World :=
  (((w5.setCell ⟨g, o + 1, none⟩ (.string k)).setCell ⟨g, o + 1 + 1, none⟩ (.string d)).setCell ⟨g, o + 1 + 2, none⟩ (.bool e)).setCell ⟨g, o + 1 + 3, none⟩ v
theorem copy_rel {B : Nat} {wr w5 : World} {ls rest : List (ByteArray × Lt)} {g off n c2 k : Nat} {nx : ByteArray} {y : Lt} {kx dx : ByteArray} {ex : Bool} {v : Value} {ks' : List (ByteArray × Lt)} {T : TypeId}
    (hown : Ow (fun g => B + 2 ≤ g) wr T 5 (.slice (some ⟨g, off, none⟩) n c2) n (kcells (ls ++ (nx, y) :: rest))) (hll : ls.length = k) (hok : Oks wr ls) (hin : InS (fun b => B + 2 ≤ b ∧ b < wr.heap.size ∧ (Value.slice (some ⟨g, off, none⟩) n c2).ownBlock ≠ some b) ls)
    (hb5 : Below wr.heap.size wr w5) (hk : (Tr.mk kx dx ex v ks' : Lt).Ok w5) (hki : (Tr.mk kx dx ex v ks' : Lt).In (fun b => wr.heap.size ≤ b ∧ b < w5.heap.size)) :
    Ow (fun g => B + 2 ≤ g) (put4 w5 g (off + k * 5) kx dx ex v) T 5 (.slice (some ⟨g, off, none⟩) n c2) n (kcells ((ls ++ [(nx, (Tr.mk kx dx ex v ks' : Lt))]) ++ rest)) ∧ Oks (put4 w5 g (off + k * 5) kx dx ex v) (ls ++ [(nx, (Tr.mk kx dx ex v ks' : Lt))]) ∧
      InS (fun b => B + 2 ≤ b ∧ b < (put4 w5 g (off + k * 5) kx dx ex v).heap.size ∧ (Value.slice (some ⟨g, off, none⟩) n c2).ownBlock ≠ some b) (ls ++ [(nx, (Tr.mk kx dx ex v ks' : Lt))]) ∧ Fr (fun b => b = g) wr (put4 w5 g (off + k * 5) kx dx ex v) ∧ B + 2 ≤ g := by
  obtain ⟨hg1, hg2⟩ := hown.blk g rfl
  have hF5 : Fr (fun b => b = g) w5 (put4 w5 g (off + k * 5) kx dx ex v) := ((((Fr.refl (fun b => b = g) w5).setCell (p := ⟨g, off + k * 5 + 1, none⟩) (.inl rfl) _).setCell (p := ⟨g, off + k * 5 + 1 + 1, none⟩) (.inl rfl) _).setCell (p := ⟨g, off + k * 5 + 1 + 2, none⟩) (.inl rfl) _).setCell (p := ⟨g, off + k * 5 + 1 + 3, none⟩) (.inl rfl) _
  have hF : Fr (fun b => b = g) wr (put4 w5 g (off + k * 5) kx dx ex v) := (Fr.ob hb5).trans hF5
  have hs5 := hb5.size
  have hs6 := hF5.size
  have hl := hown.1
  have hlen : ∀ z : List (ByteArray × Lt), (kcells z).length = z.length * 5 := kcells_len
  refine ⟨?_, ?_, ?_, hF, hg1⟩
  · have h5 := hown.ob hb5
    have hl5 : (kcells (ls ++ (nx, y) :: rest)).length = n * 5 := hl
    have hkn : k * 5 + 5 ≤ n * 5 := by rw [← hl5, hlen]; simp; omega
    have s1 := h5.put (j := k * 5 + 1) (by omega) (.string kx)
    have s2 := s1.put (j := k * 5 + 2) (by simp; omega) (.string dx)
    have s3 := s2.put (j := k * 5 + 3) (by simp; omega) (.bool ex)
    have s4 := s3.put (j := k * 5 + 4) (by simp; omega) v
    have e := kcells_put ls rest nx y kx dx ex v ks'
    rw [hll] at e
    rw [e] at s4
    rw [List.append_assoc]
    exact s4
  · rw [oks_iff]
    intro x hx
    rcases List.mem_append.1 hx with h | h
    · exact ok_fr hF x.2 (oks_iff.1 hok x h) (in_mono (fun b hb e => hb.2.2 (by rw [e]; rfl)) x.2 (inS_iff.1 hin x h))
    · simp only [List.mem_cons, List.not_mem_nil, or_false] at h
      subst h
      exact ok_fr hF5 _ hk (in_mono (fun b hb e => by omega) _ hki)
  · rw [inS_iff]
    intro x hx
    rcases List.mem_append.1 hx with h | h
    · exact in_mono (fun b hb => ⟨hb.1, by omega, hb.2.2⟩) x.2 (inS_iff.1 hin x h)
    · simp only [List.mem_cons, List.not_mem_nil, or_false] at h
      subst h
      exact in_mono (fun b hb => ⟨by omega, by omega, fun e => by simp [Value.ownBlock] at e; omega⟩) _ hki

set_option maxRecDepth 100000 in
set_option maxHeartbeats 4000000 in
theorem copy_any (m : Nat) : ∀ (t : Lt) (w : World), t.sz ≤ m → m ≤ 300 → t.Ok w → Calls Tryz.prog 64 #[nval t] w (OwnP t w) := by
  induction m with
  | zero => intro t w hm; have := Tr.sz_kids t; omega
  | succ m ih =>
    intro t w hm hm3 ht
    obtain ⟨ta, tc, htv⟩ := ht.shape
    have hkl : t.kids.length ≤ m := by
      have h1 := Tr.sz_kids t
      have h2 : t.kids.length ≤ Tr.szs t.kids := by
        rw [← pres_len ⟨#[]⟩ 0]
        generalize t.kids = l
        clear ih hm ht htv h1
        induction l with
        | nil => simp
        | cons x r ih => obtain ⟨n, t⟩ := x; rw [pres, List.length_append, pre_cons]; simp only [List.length_cons]; omega
      omega
    have HKA : Hid (∀ i (h : i < t.kids.length), t.kids[i].2.sz ≤ m) := hidd (fun i h => by have := Tr.sz_lt (List.getElem_mem h); omega)
    obtain ⟨kd, da, ex, va, ks⟩ := t
    simp only [Tr.v, Tr.kids] at htv hkl HKA
    subst htv
    have hB0 : Below w.heap.size w ((w.alloc (.cells #[.string kd, .string da, .bool ex, .slice ta ks.length tc] 32)).alloc (.cells #[.string ⟨#[]⟩, .string ⟨#[]⟩, .bool false, .slice none 0 0] 32)) := ((Below.refl _ _).alloc (Nat.le_refl _) _).alloc (by simp) _
    have hq1 := Blk.new w [.string kd, .string da, .bool ex, .slice ta ks.length tc] 32
    have hq2 := Blk.new (w.alloc (.cells #[.string kd, .string da, .bool ex, .slice ta ks.length tc] 32)) [.string ⟨#[]⟩, .string ⟨#[]⟩, .bool false, .slice none 0 0] 32
    rw [show (w.alloc (.cells #[.string kd, .string da, .bool ex, .slice ta ks.length tc] 32)).heap.size = w.heap.size + 1 by simp] at hq2
    have hq1' := hq1.alloc (.cells #[.string ⟨#[]⟩, .string ⟨#[]⟩, .bool false, .slice none 0 0] 32)
    have ht0 := ht.ob hB0
    have hsz0 : ((w.alloc (.cells #[.string kd, .string da, .bool ex, .slice ta ks.length tc] 32)).alloc (.cells #[.string ⟨#[]⟩, .string ⟨#[]⟩, .bool false, .slice none 0 0] 32)).heap.size = w.heap.size + 2 := by simp
    have hsl0 := ht0.sl
    have hoks0 : Oks _ ks := oks_iff.2 (fun x hx => ht0.kid (x := x) hx)
    simp only [Tr.v, Tr.kids] at hsl0
    have HCL := hidd (clone_kids _ ks _ hsl0 hoks0 (by omega))
    rw [hsz0] at HCL
    unfold nval
    simp only [Tr.kind, Tr.data, Tr.exec, Tr.v]
    clear hq1 ht0 hsl0 hoks0 hm
    go_enter Tryz.func64, Tryz.ntmps64
    go_wp2_with fail
    refine HCL.out.mono ?_
    rintro e w2 ⟨a2, c2, rfl, hown, hb2⟩
    have hb2' : Below w.heap.size w w2 := hB0.trans (hb2.mono (by omega))
    have hk1 := hq1'.below hb2 (by omega)
    have hk2 := hq2.below hb2 (by omega)
    have f3 := hk1.frozen 3
    have hk1s := hk1.set 3 (.slice a2 ks.length c2)
    have hk2s := hk2.other (a := ⟨w.heap.size, 3, none⟩) (by simp) (.slice a2 ks.length c2)
    have howns := hown.set (a := ⟨w.heap.size, 3, none⟩) (by simp) (.slice a2 ks.length c2)
    have hb3 := hb2'.setCell (p := ⟨w.heap.size, 3, none⟩) (Nat.le_refl _) (.slice a2 ks.length c2)
    have x3 := hk1.cell (i := 3) rfl
    have z3 := hk1s.cell (i := 3) rfl
    clear hk1 hk2 hown hb2' hb2 hB0 hq2 hq1' HCL hsz0
    go_wp2_with fail
    clear x3 z3 f3
    go_loopw [3, 11] (fun _ t wr => ∃ (k : Nat) (ls : List (ByteArray × Lt)), k ≤ ks.length ∧ t = .int .i64 (k : Int) ∧ ls.length = k ∧ (∀ i (h : i < ls.length) (h' : i < ks.length), ls[i].1 = ks[i].1 ∧ ls[i].2.bare = ks[i].2.bare) ∧
        Ow (fun g => w.heap.size + 2 ≤ g) wr 85 5 (.slice a2 ks.length c2) ks.length (kcells (ls ++ ks.drop k)) ∧ Oks wr ls ∧ InS (fun b => w.heap.size + 2 ≤ b ∧ b < wr.heap.size ∧ (Value.slice a2 ks.length c2).ownBlock ≠ some b) ls ∧
        Blk wr w.heap.size [.string kd, .string da, .bool ex, .slice a2 ks.length c2] 32 ∧ Blk wr (w.heap.size + 1) [.string ⟨#[]⟩, .string ⟨#[]⟩, .bool false, .slice none 0 0] 32 ∧ Below w.heap.size w wr) (fun _ t _ => ks.length - (intOf t).toNat)
    case atStart => exact ⟨0, [], Nat.zero_le _, rfl, rfl, fun i h => by simp at h, howns, by rw [Oks]; trivial, by rw [InS]; trivial, hk1s, hk2s, hb3⟩
    case round =>
      obtain ⟨k, ls, hk, rfl, hll, heq, hown, hok, hin, hb1, hb2, hbel⟩ := hrel
      have hcA := hb1.cell (i := 3) rfl
      clear hk1s hk2s howns hb3
      by_cases hlt : k < ks.length
      · have hxs := HKA.out k hlt
        have hxk := (ht.ob hbel).get hlt
        have hnm := ht.names _ (List.getElem_mem hlt)
        have hsl := hown.sl
        have hlen : (ls ++ ks.drop k).length = ks.length := by rw [List.length_append, List.length_drop]; omega
        have hdk : ks.drop k = ks[k] :: ks.drop (k + 1) := by rw [List.getElem_cons_drop]
        obtain ⟨g, off, rfl, hgl, a0, a1, a2, a3, a4⟩ := sl_at5 (l := ls ++ ks.drop k) (by rw [hlen]; exact hsl) (i := k) (by rw [hlen]; exact hlt)
        have hgk : (ls ++ ks.drop k)[k]'(by rw [hlen]; exact hlt) = ks[k] := by
          rw [List.getElem_append_right (by omega)]
          simp only [hll, Nat.sub_self]
          simp
        rw [hgk] at a0 a1 a2 a3 a4
        simp only [Tr.kids] at hxk hnm
        have p1 : (0 : Int) ≤ (k : Int) := by omega
        have p2 : (k : Int) < (ks.length : Int) := by omega
        obtain ⟨x, hx⟩ : ∃ x, ks[k] = x := ⟨_, rfl⟩
        have HX : Hid (ks[k] = x) := hidd hx
        rw [hx] at a0 a1 a2 a3 a4 hxk hxs hnm hdk
        obtain ⟨ya, yc, hyv⟩ := hxk.shape
        have HC := ih x.2 wr.drew hxs (by omega) (hxk.ob ((Below.refl _ _).drew))
        obtain ⟨nx, ⟨kx, dx, ex', vx, ksx⟩⟩ := x
        simp only [Tr.v, Tr.kids, Tr.kind, Tr.data, Tr.exec] at hyv a1 a2 a3 a4
        subst hyv
        unfold nval at HC
        simp only [Tr.v, Tr.kind, Tr.data, Tr.exec] at HC
        have HCH := hidd HC
        have HDK := hidd hdk
        have hfz := fun j => hown.frozenT j
        have HFZ : Hid (∀ W, Below wr.heap.size wr.drew W → ∀ j, W.frozen? ⟨g, j, none⟩ = false) := hidd (fun W hb j => (hown.drew.ob hb).frozenT j)
        have HB1 : Hid (∀ W, Below wr.heap.size wr.drew W → W.cell? ⟨w.heap.size, 3, none⟩ = some (.slice (some ⟨g, off, none⟩) ks.length c2)) := hidd (fun W hb => (hb1.drew.below hb hb1.lt).cell (i := 3) rfl)
        have HA : Hid (∀ W, Below wr.heap.size wr.drew W → W.cell? ⟨g, off + k * 5 + 1, none⟩ = some (.string kx) ∧ W.cell? ⟨g, off + k * 5 + 2, none⟩ = some (.string dx) ∧ W.cell? ⟨g, off + k * 5 + 3, none⟩ = some (.bool ex') ∧ W.cell? ⟨g, off + k * 5 + 4, none⟩ = some (.slice ya ksx.length yc)) := hidd (fun W hb =>
          ⟨(hb.cell (p := ⟨g, _, none⟩) hgl).trans a1, (hb.cell (p := ⟨g, _, none⟩) hgl).trans a2, (hb.cell (p := ⟨g, _, none⟩) hgl).trans a3, (hb.cell (p := ⟨g, _, none⟩) hgl).trans a4⟩)
        clear hx hdk hgk hsl hlen HC hnm hfz hxk hgl
        go_wp2_with fail
        go_region_law (first
          | (go_simp; go_at_call 64; (with_reducible refine HCH.out.mono ?_); rintro e w5 ⟨xa, xc, ks', rfl, hbr, hok', hin', hb5⟩; simp only [Tr.kind, Tr.data, Tr.exec]; have hb5x : Below wr.heap.size wr w5 := (Below.refl _ _).drew.trans hb5; have q3 := HB1.out w5 hb5; have z1 := HFZ.out w5 hb5 (off + k * 5 + 1); have z2 := HFZ.out w5 hb5 (off + k * 5 + 2); have z3 := HFZ.out w5 hb5 (off + k * 5 + 3); have z4 := HFZ.out w5 hb5 (off + k * 5 + 4); obtain ⟨r1, r2, r3, r4⟩ := HA.out w5 hb5))
        all_goals
          obtain ⟨r1, r2, r3, r4, r5⟩ := copy_rel (nx := nx) (rest := ks.drop (k + 1)) (y := .mk kx dx ex' (.slice ya ksx.length yc) ksx) (by rw [HDK.out] at hown; exact hown) hll hok hin hb5x hok' hin'
          have HEQ : Hid (∀ i (h : i < (ls ++ [((nx, .mk kx dx ex' (.slice xa ks'.length xc) ks') : ByteArray × Lt)]).length) (h' : i < ks.length), (ls ++ [((nx, .mk kx dx ex' (.slice xa ks'.length xc) ks') : ByteArray × Lt)])[i].1 = ks[i].1 ∧ (ls ++ [((nx, .mk kx dx ex' (.slice xa ks'.length xc) ks') : ByteArray × Lt)])[i].2.bare = ks[i].2.bare) := hidd (fun i h h' => by
            by_cases e : i < ls.length
            · rw [List.getElem_append_left e]; exact heq i e h'
            · obtain rfl : i = k := by simp at h; omega
              rw [List.getElem_append_right (by omega), HX.out]
              simp only [hll, Nat.sub_self, List.getElem_cons_zero]
              exact ⟨trivial, hbr⟩)
          have hb17 := hb1.fr r4 (by omega)
          have hb27 := hb2.fr r4 (by omega)
          have hbel7 : Below w.heap.size w (put4 w5 g (off + k * 5) kx dx ex' (.slice xa ks'.length xc)) := hbel.trans (r4.below hbel.size (fun b e => by omega))
          have HLL : Hid ((ls ++ [((nx, .mk kx dx ex' (.slice xa ks'.length xc) ks') : ByteArray × Lt)]).length = k + 1) := hidd (by simp [hll])
          unfold put4 at r1 r2 r3 hb17 hb27 hbel7
          have H1 := hidd r1
          have H2 := hidd r2
          have H3 := hidd r3
          clear hb1 hb2 hcA a0 a1 a2 a3 a4
          go_wp2_with fail
          go_roundw
          case rel => exact ⟨k + 1, _, hlt, by go_num, HLL.out, HEQ.out, H1.out, H2.out, H3.out, hb17, hb27, hbel7⟩
          case measure => simp [intOf]; omega
      · have hkk : k = ks.length := by omega
        have HP : Hid ((Tr.mk kd da ex (.slice a2 ls.length c2) ls : Lt).bare = (Tr.mk kd da ex (.slice ta ks.length tc) ks : Lt).bare ∧ (∀ x ∈ ls, x.1.size ≤ 140737488351232) ∧ Oks wr ls ∧ InS (fun b => w.heap.size + 2 ≤ b ∧ b < wr.heap.size ∧ (Value.slice a2 ks.length c2).ownBlock ≠ some b) ls) := hidd ⟨by
            rw [Tr.bare_iff]
            exact ⟨rfl, rfl, rfl, by simp only [Tr.kids]; omega, fun i h h' => heq i h h'⟩, fun x hx => by
            obtain ⟨i, hi, rfl⟩ := List.getElem_of_mem hx
            rw [(heq i hi (by omega)).1]
            exact ht.names _ (List.getElem_mem (by omega : i < ks.length)), hok, hin⟩
        have hslt : ¬ ((k : Int) < (ks.length : Int)) := by omega
        have hon : Ow (fun g => w.heap.size + 2 ≤ g) wr 85 5 (.slice a2 ks.length c2) ks.length (kcells ls) := by
          rw [hkk, List.drop_of_length_le (Nat.le_refl _), List.append_nil] at hown; exact hown
        have d0 := hb1.cell (i := 0) rfl
        have d1 := hb1.cell (i := 1) rfl
        have d2 := hb1.cell (i := 2) rfl
        have e0 := hb2.cell (i := 0) rfl
        have f0 := hb2.frozen 0
        have s1 := hb2.set 0 (.string kd)
        have e1 := s1.cell (i := 1) rfl
        have f1 := s1.frozen 1
        have s2 := s1.set 1 (.string da)
        have e2 := s2.cell (i := 2) rfl
        have f2 := s2.frozen 2
        have s3 := s2.set 2 (.bool ex)
        have e3 := s3.cell (i := 3) rfl
        have f3 := s3.frozen 3
        have s4 := s3.set 3 (.slice a2 ks.length c2)
        have r0 := s4.cell (i := 0) rfl
        have r1 := s4.cell (i := 1) rfl
        have r2 := s4.cell (i := 2) rfl
        have r3 := s4.cell (i := 3) rfl
        have hFF := ((((Fr.refl (fun b => b = w.heap.size + 1) wr).setCell (p := ⟨w.heap.size + 1, 0, none⟩) (.inl rfl) (.string kd)).setCell (p := ⟨w.heap.size + 1, 1, none⟩) (.inl rfl) (.string da)).setCell (p := ⟨w.heap.size + 1, 2, none⟩) (.inl rfl) (.bool ex)).setCell (p := ⟨w.heap.size + 1, 3, none⟩) (.inl rfl) (.slice a2 ks.length c2)
        have hOO := hon.fr hFF (fun b hb e => by have := (hon.blk b hb).1; omega)
        have hBB := hbel.trans (hFF.below hbel.size (fun b e => by omega))
        have HOO := hidd hOO
        have HFF := hidd hFF
        have HLL := hidd hll
        have HKK := hidd hkk
        clear hok hin heq ht hown hon hOO hFF hll hkk hb1 hb2 hbel s1 s2 s3
        go_wp2_with fail
        refine bodyPost_ret (v := .agg #[.string kd, .string da, .bool ex, .slice a2 ks.length c2]) ?_ rfl ?_
        · rw [results_cell1 rfl]
          go_simp
        · obtain ⟨h1, h2, h3, h4⟩ := HP.out
          have hFF := HFF.out
          have hOO := HOO.out
          have hsF := hFF.size
          have hlk : ls.length = ks.length := by rw [HLL.out, HKK.out]
          refine ⟨a2, c2, ls, by simp only [Tr.kind, Tr.data, Tr.exec]; rw [hlk], h1, ?_, ?_, hBB⟩
          · refine Tr.Ok.mk' ?_ h2 (oks_iff.1 (oks_fr hFF ls h3 (inS_mono (fun b hb e => by omega) ls h4)))
            simp only [Tr.v, Tr.kids]
            have := hOO.sl
            rw [hlk]; exact this
          · rw [Tr.In]
            refine ⟨fun _ b hb => ?_, inS_mono (fun b hb => by omega) ls h4⟩
            have hb2 := hOO.blk b (by rw [hlk] at hb; exact hb)
            exact ⟨by omega, hb2.2⟩
end Go.Proofs.YtoemahhpheobkaaGreatDoor

namespace Go.Proofs.YtoemahhpheobkaaGreatDoor
open Go.RowKit Go.Shelf

/-- A text's order against another one. -/
def cmpB (a b : ByteArray) : Int := Lib.compareBytes a.data.toList b.data.toList
theorem cmp_bd : ∀ a b : List UInt8, -1 ≤ Lib.compareBytes a b ∧ Lib.compareBytes a b ≤ 1
  | [], [] => by simp [Lib.compareBytes]
  | [], _ :: _ => by simp [Lib.compareBytes]
  | _ :: _, [] => by simp [Lib.compareBytes]
  | a :: xs, b :: ys => by
    unfold Lib.compareBytes
    split
    · simp
    · split
      · simp
      · exact cmp_bd xs ys
theorem cmp_eq : ∀ a b : List UInt8, Lib.compareBytes a b = 0 ↔ a = b
  | [], [] => by simp [Lib.compareBytes]
  | [], _ :: _ => by simp [Lib.compareBytes]
  | _ :: _, [] => by simp [Lib.compareBytes]
  | a :: xs, b :: ys => by
    unfold Lib.compareBytes
    by_cases h1 : a < b
    · rw [if_pos h1]
      simp only [List.cons.injEq]
      exact ⟨fun h => by omega, fun h => absurd h1 (by rw [h.1]; exact UInt8.lt_irrefl _)⟩
    · rw [if_neg h1]
      by_cases h2 : b < a
      · rw [if_pos h2]
        simp only [List.cons.injEq]
        exact ⟨fun h => by omega, fun h => absurd h2 (by rw [h.1]; exact UInt8.lt_irrefl _)⟩
      · rw [if_neg h2, cmp_eq xs ys, List.cons.injEq]
        have : a = b := UInt8.le_antisymm (UInt8.not_lt.1 h2) (UInt8.not_lt.1 h1)
        exact ⟨fun h => ⟨this, h⟩, fun h => h.2⟩
theorem cmp_less : ∀ a b : List UInt8, Op.bytesLess a b = decide (Lib.compareBytes a b < 0)
  | [], [] => by simp [Lib.compareBytes, Op.bytesLess]
  | [], _ :: _ => by simp [Lib.compareBytes, Op.bytesLess]
  | _ :: _, [] => by simp [Lib.compareBytes, Op.bytesLess]
  | a :: xs, b :: ys => by
    have ih := cmp_less xs ys
    unfold Lib.compareBytes Op.bytesLess
    by_cases h1 : a < b
    · simp [h1]
    · by_cases h2 : b < a
      · have hne : ¬ a = b := fun e => by rw [e] at h2; exact UInt8.lt_irrefl _ h2
        simp [h1, h2, hne]
      · have : a = b := UInt8.le_antisymm (UInt8.not_lt.1 h2) (UInt8.not_lt.1 h1)
        subst this
        simpa [h1] using ih
theorem cmp_swap : ∀ a b : List UInt8, Lib.compareBytes b a = - Lib.compareBytes a b
  | [], [] => by simp [Lib.compareBytes]
  | [], _ :: _ => by simp [Lib.compareBytes]
  | _ :: _, [] => by simp [Lib.compareBytes]
  | a :: xs, b :: ys => by
    have ih := cmp_swap xs ys
    unfold Lib.compareBytes
    by_cases h1 : a < b
    · have h2 : ¬ b < a := fun h => UInt8.lt_irrefl _ (UInt8.lt_trans h1 h)
      simp [h1, h2]
    · by_cases h2 : b < a
      · simp [h1, h2]
      · simpa [h1, h2] using ih
theorem cmp_trans : ∀ a b c : List UInt8, Lib.compareBytes a b < 0 → Lib.compareBytes b c < 0 → Lib.compareBytes a c < 0
  | [], b, [], h1, h2 => by cases b <;> simp [Lib.compareBytes] at h1 h2
  | [], _, _ :: _, _, _ => by simp [Lib.compareBytes]
  | _ :: _, [], _, h1, _ => by simp [Lib.compareBytes] at h1
  | _ :: _, _ :: _, [], _, h2 => by simp [Lib.compareBytes] at h2
  | a :: xs, b :: ys, c :: zs, h1, h2 => by
    have ih := cmp_trans xs ys zs
    unfold Lib.compareBytes at h1 h2 ⊢
    by_cases k1 : a < b
    · by_cases k2 : b < c
      · rw [if_pos (UInt8.lt_trans k1 k2)]; omega
      · rw [if_neg k2] at h2
        by_cases k3 : c < b
        · rw [if_pos k3] at h2; omega
        · have : b = c := UInt8.le_antisymm (UInt8.not_lt.1 k3) (UInt8.not_lt.1 k2)
          rw [if_pos (this ▸ k1)]; omega
    · rw [if_neg k1] at h1
      by_cases k3 : b < a
      · rw [if_pos k3] at h1; omega
      · rw [if_neg k3] at h1
        have : a = b := UInt8.le_antisymm (UInt8.not_lt.1 k3) (UInt8.not_lt.1 k1)
        subst this
        by_cases k2 : a < c
        · rw [if_pos k2]; omega
        · rw [if_neg k2] at h2 ⊢
          by_cases k4 : c < a
          · rw [if_pos k4] at h2; omega
          · rw [if_neg k4] at h2 ⊢
            exact ih h1 h2
theorem cmpB_eq {a b : ByteArray} : cmpB a b = 0 ↔ a = b := by
  unfold cmpB
  rw [cmp_eq]
  exact ⟨Go.WideShapes.bytes_inj, fun h => by rw [h]⟩
theorem cmpB_swap (a b : ByteArray) : cmpB b a = - cmpB a b := cmp_swap _ _
theorem cmpB_trans {a b c : ByteArray} : cmpB a b < 0 → cmpB b c < 0 → cmpB a c < 0 := cmp_trans _ _ _
theorem leB_cmp (a b : ByteArray) : (!leB b a) = decide (cmpB a b < 0) := by
  unfold leB cmpB
  rw [Lib.toList_data, Lib.toList_data, cmp_less]
  have h1 := cmp_swap a.data.toList b.data.toList
  have h2 := cmp_eq b.data.toList a.data.toList
  by_cases h0 : Lib.compareBytes b.data.toList a.data.toList = 0
  · have e := h2.1 h0
    rw [e]
    have := (cmp_eq a.data.toList a.data.toList).2 rfl
    simp [this]
  · have e : (b.data.toList == a.data.toList) = false := by
      cases hq : (b.data.toList == a.data.toList) with
      | false => rfl
      | true => exact absurd (h2.2 (by simpa using hq)) h0
    rw [e, Bool.or_false]
    by_cases h3 : Lib.compareBytes b.data.toList a.data.toList < 0
    · rw [decide_eq_true h3, decide_eq_false (by omega)]; rfl
    · rw [decide_eq_false h3, decide_eq_true (by omega)]; rfl
/-- Names that rise: each is ahead of all behind it. -/
theorem rising_lt : ∀ {l : List ByteArray}, rising l = true → ∀ (i j : Nat) (hi : i < j) (hj : j < l.length), cmpB (l[i]'(by omega)) l[j] < 0
  | [], _, i, j, _, hj => by simp at hj
  | [a], _, i, j, hi, hj => by simp at hj; omega
  | a :: b :: r, h, i, j, hi, hj => by
    unfold rising at h
    rw [Bool.and_eq_true, leB_cmp] at h
    obtain ⟨h1, h2⟩ := h
    have h1 := of_decide_eq_true h1
    have ih := rising_lt h2
    cases j with
    | zero => omega
    | succ j =>
      cases i with
      | succ i => exact ih i j (by omega) (by simpa using hj)
      | zero =>
        cases j with
        | zero => exact h1
        | succ j => exact cmpB_trans h1 (ih 0 (j + 1) (by omega) (by simpa using hj))

/-- What a search for a name finds: how many are ahead of it; is it there? -/
def FndK {α : Type} (ks : List (ByteArray × α)) (n : ByteArray) (i : Nat) (f : Bool) : Prop :=
  i ≤ ks.length ∧ (∀ j (h : j < ks.length), j < i → cmpB ks[j].1 n < 0) ∧ (∀ j (h : j < ks.length), i ≤ j → 0 ≤ cmpB ks[j].1 n) ∧ (f = true ↔ ∃ h : i < ks.length, ks[i].1 = n)

set_option maxRecDepth 100000 in
theorem kid_cl (x : ByteArray × Lt) (n : ByteArray) (w : World) :
    Calls Tryz.prog 112 #[kvl x, .string n] w fun e w' => e = .returned (.int .i64 (cmpB x.1 n)) ∧ Below w.heap.size w w' := by
  unfold kvl
  have hb1 : Below w.heap.size w (w.alloc (.cells #[.string x.1, .string x.2.kind, .string x.2.data, .bool x.2.exec, x.2.v] 85)) := (Below.refl _ _).alloc (Nat.le_refl _) _
  have HC := hidd (Tryz.strings_Compare x.1 n (w.alloc (.cells #[.string x.1, .string x.2.kind, .string x.2.data, .bool x.2.exec, x.2.v] 85)))
  have HV : Hid (Lib.compareBytes x.1.data.toList n.data.toList = cmpB x.1 n) := hidd rfl
  rw [HV.out] at HC
  go_enter Tryz.func112, Tryz.ntmps112
  go_wp2_with fail
  refine HC.out.mono ?_
  rintro e w' ⟨rfl, rfl⟩
  go_wp2_with fail
  go_ret
  exact ⟨rfl, hb1⟩

/-- What the search gives. -/
def BsP (ks : List (ByteArray × Lt)) (n : ByteArray) (w : World) (e : Ending) (w' : World) : Prop :=
  ∃ (i : Nat) (f : Bool), e = .returned (.tuple #[.int .i64 (i : Int), .bool f]) ∧ FndK ks n i f ∧ Below w.heap.size w w'

set_option maxRecDepth 100000 in
set_option maxHeartbeats 4000000 in
theorem bs_kids (v : Value) (ks : List (ByteArray × Lt)) (n : ByteArray) (w : World) (h : Sl w v (kcells ks) ks.length 5) (h5 : ks.length ≤ 1000000) (hr : rising (ks.map (·.1)) = true) :
    Calls Tryz.prog 111 #[v, .string n, .func (.func 112) #[] #[]] w (BsP ks n w) := by
  obtain ⟨a, cap, rfl, -⟩ := id h
  have HM : Hid (∀ i j (hi : i < ks.length) (hj : j < ks.length), i ≤ j → cmpB ks[j].1 n < 0 → cmpB ks[i].1 n < 0) := hidd (fun i j hi hj hij hc => by
    by_cases e : i = j
    · subst e; exact hc
    · have := rising_lt hr i j (by omega) (by simpa using hj)
      simp only [List.getElem_map] at this
      exact cmpB_trans this hc)
  clear hr
  go_enter Tryz.func111, Tryz.ntmps111
  go_wp2_with fail
  go_loopw [9, 10] (fun s9 s10 wr => ∃ lo hi : Nat, s9 = .int .i64 (lo : Int) ∧ s10 = .int .i64 (hi : Int) ∧ lo ≤ hi ∧ hi ≤ ks.length ∧ Hid (∀ j (h : j < ks.length), j < lo → cmpB ks[j].1 n < 0) ∧ Hid (∀ j (h : j < ks.length), hi ≤ j → 0 ≤ cmpB ks[j].1 n) ∧ Below w.heap.size w wr) (fun s9 s10 _ => (intOf s10).toNat - (intOf s9).toNat)
  case atStart => exact ⟨0, ks.length, rfl, rfl, Nat.zero_le _, Nat.le_refl _, hidd (fun j h hj => by omega), hidd (fun j h hj => by omega), Below.refl _ _⟩
  case round =>
    obtain ⟨lo, hi, rfl, rfl, hlh, hhn, HL, HH, hbel⟩ := hrel
    have hA := h.ob hbel (Nat.le_refl _)
    by_cases hlt : lo < hi
    · obtain ⟨m, hm⟩ : ∃ m, (lo + hi) / 2 = m := ⟨_, rfl⟩
      have hm1 : lo ≤ m ∧ m < hi := by omega
      have hmi : ((lo : Int) + (hi : Int)) / 2 = (m : Int) := by omega
      have hmk : m < ks.length := by omega
      obtain ⟨b, off, rfl, hb, a0, a1, a2, a3, a4⟩ := sl_at5 hA hmk
      have p1 : (0 : Int) ≤ (m : Int) := by omega
      have p2 : (m : Int) < (ks.length : Int) := by omega
      obtain ⟨x, hx⟩ : ∃ x, ks[m] = x := ⟨_, rfl⟩
      have HX : Hid (ks[m] = x) := hidd hx
      rw [hx] at a0 a1 a2 a3 a4
      have HC := hidd (kid_cl x n wr)
      unfold kvl at HC
      obtain ⟨cv, hcv⟩ : ∃ c, cmpB x.1 n = c := ⟨_, rfl⟩
      rw [hcv] at HC
      have HV := hidd hcv
      clear hx hcv hA h
      by_cases hc : cv < 0
      · have e1 : decide (cv < 0) = true := decide_eq_true hc
        go_wp2_with fail
        refine HC.out.mono ?_
        rintro e w5 ⟨rfl, hb5⟩
        have hB5 := hbel.trans (hb5.mono hbel.size)
        clear hb5 a0 a1 a2 a3 a4
        go_wp2_with fail
        go_roundw
        case rel => exact ⟨m + 1, hi, by go_num, rfl, by omega, hhn, hidd (fun j h hj => HM.out j m h hmk (by omega) (by rw [HX.out, HV.out]; exact hc)), HH, hB5⟩
        case measure => simp [intOf]; omega
      · have e1 : decide (cv < 0) = false := decide_eq_false hc
        go_wp2_with fail
        refine HC.out.mono ?_
        rintro e w5 ⟨rfl, hb5⟩
        have hB5 := hbel.trans (hb5.mono hbel.size)
        clear hb5 a0 a1 a2 a3 a4
        go_wp2_with fail
        go_roundw
        case rel => exact ⟨lo, m, rfl, rfl, by omega, by omega, HL, hidd (fun j h hj => Int.not_lt.1 (fun hcj => absurd (HM.out m j hmk h hj hcj) (by rw [HX.out, HV.out]; omega))), hB5⟩
        case measure => simp [intOf]; omega
    · obtain rfl : lo = hi := by omega
      by_cases hn : lo < ks.length
      · obtain ⟨b, off, rfl, hb, a0, a1, a2, a3, a4⟩ := sl_at5 hA hn
        have p1 : (0 : Int) ≤ (lo : Int) := by omega
        have p2 : (lo : Int) < (ks.length : Int) := by omega
        obtain ⟨x, hx⟩ : ∃ x, ks[lo] = x := ⟨_, rfl⟩
        have HX : Hid (ks[lo] = x) := hidd hx
        rw [hx] at a0 a1 a2 a3 a4
        have HC := hidd (kid_cl x n wr)
        unfold kvl at HC
        have HE := hidd (cmpB_eq (a := x.1) (b := n))
        obtain ⟨cv, hcv⟩ : ∃ c, cmpB x.1 n = c := ⟨_, rfl⟩
        rw [hcv] at HC HE
        clear hx hcv hA h
        by_cases hc : cv = 0
        · have e1 : (cv == 0) = true := by simp [hc]
          have HF : Hid (FndK ks n lo true) := hidd ⟨by omega, HL.out, HH.out, ⟨fun _ => ⟨hn, by rw [HX.out]; exact HE.out.1 hc⟩, fun _ => rfl⟩⟩
          subst hc
          go_wp2_with fail
          refine HC.out.mono ?_
          rintro e w5 ⟨rfl, hb5⟩
          have hB5 := hbel.trans (hb5.mono hbel.size)
          clear hb5 a0 a1 a2 a3 a4
          go_wp2_with fail
          go_ret2
          exact ⟨lo, true, rfl, HF.out, hB5⟩
        · have e1 : (cv == 0) = false := by simp [hc]
          have HF : Hid (FndK ks n lo false) := hidd ⟨by omega, HL.out, HH.out, ⟨(fun h => by cases h), fun ⟨_, h⟩ => absurd (HE.out.2 (by rw [← HX.out]; exact h)) hc⟩⟩
          go_wp2_with fail
          refine HC.out.mono ?_
          rintro e w5 ⟨rfl, hb5⟩
          have hB5 := hbel.trans (hb5.mono hbel.size)
          clear hb5 a0 a1 a2 a3 a4
          go_wp2_with fail
          go_ret2
          exact ⟨lo, false, rfl, HF.out, hB5⟩
      · have HF : Hid (FndK ks n lo false) := hidd ⟨by omega, HL.out, HH.out, ⟨(fun h => by cases h), fun ⟨h, _⟩ => absurd h hn⟩⟩
        clear hA h
        go_wp2_with fail
        go_ret2
        exact ⟨lo, false, rfl, HF.out, hbel⟩

set_option maxRecDepth 100000 in
theorem kid_find (t : Lt) (n : ByteArray) (w : World) (ht : t.Ok w) (h5 : t.kids.length ≤ 1000000) (hr : rising (t.kids.map (·.1)) = true) :
    Calls Tryz.prog 89 #[nval t, .string n] w (BsP t.kids n w) := by
  obtain ⟨a, cap, hv⟩ := ht.shape
  have hB0 : Below w.heap.size w (w.alloc (.cells #[.string t.kind, .string t.data, .bool t.exec, .slice a t.kids.length cap] 32)) := (Below.refl _ _).alloc (Nat.le_refl _) _
  have hC := bs_kids t.v t.kids n _ (ht.ob hB0).sl h5 hr
  unfold nval
  rw [hv] at hC ⊢
  have HC := hidd hC
  clear hC hv ht hr
  go_enter Tryz.func89, Tryz.ntmps89
  go_wp2_with fail
  refine HC.out.mono ?_
  rintro e w2 ⟨i, f, rfl, hf, hb2⟩
  have HF := hidd hf
  clear hf
  go_wp2_with fail
  go_ret2
  exact ⟨i, f, rfl, HF.out, hB0.trans (hb2.mono hB0.size)⟩
end Go.Proofs.YtoemahhpheobkaaGreatDoor
