/- Packs in plain words: their errors, whom one needs. No condition. -/
import Derived.Test.YtlcabkhalockpaaGreatDoorTrO
namespace Go.Proofs.YtlcabkhalockpaaGreatDoor
open Go.RowKit

/-- A pack: its name, whom it needs. -/
abbrev Pn := ByteArray × List ByteArray
/-- A rising row of texts. -/
def Up (l : List ByteArray) : Prop := l.Pairwise fun a b => a.data.toList < b.data.toList
theorem toList_inj {a b : ByteArray} (h : a.data.toList = b.data.toList) : a = b := by
  obtain ⟨⟨x⟩⟩ := a
  obtain ⟨⟨y⟩⟩ := b
  simp at h
  rw [h]
theorem lt_irr (a : List UInt8) : ¬ a < a := List.lt_irrefl a
theorem lt_tr {a b c : List UInt8} (h : a < b) (k : b < c) : a < c := List.lt_trans h k
theorem lt_as {a b : List UInt8} (h : a < b) : ¬ b < a := fun k => lt_irr a (lt_tr h k)
theorem lt_tri (a b : List UInt8) : a < b ∨ a = b ∨ b < a := by
  by_cases h : a < b
  · exact .inl h
  · by_cases k : b < a
    · exact .inr (.inr k)
    · exact .inr (.inl (List.le_antisymm (List.not_lt.1 k) (List.not_lt.1 h)))
/-- Two rising rows of the same texts are one. -/
theorem up_eq : ∀ {a b : List ByteArray}, Up a → Up b → (∀ s, s ∈ a ↔ s ∈ b) → a = b
  | [], [], _, _, _ => rfl
  | [], y :: b, _, _, h => by have := (h y).2 (List.mem_cons_self ..); cases this
  | x :: a, [], _, _, h => by have := (h x).1 (List.mem_cons_self ..); cases this
  | x :: a, y :: b, ha, hb, h => by
    obtain ⟨a1, a2⟩ := List.pairwise_cons.1 ha
    obtain ⟨b1, b2⟩ := List.pairwise_cons.1 hb
    have hxy : x = y := by
      rcases List.mem_cons.1 ((h x).1 (List.mem_cons_self ..)) with e | e
      · exact e
      · rcases List.mem_cons.1 ((h y).2 (List.mem_cons_self ..)) with e' | e'
        · exact e'.symm
        · exact absurd (b1 x e) (lt_as (a1 y e'))
    subst hxy
    congr 1
    refine up_eq a2 b2 (fun s => ⟨fun hs => ?_, fun hs => ?_⟩)
    · rcases List.mem_cons.1 ((h s).1 (List.mem_cons_of_mem _ hs)) with e | e
      · subst e; exact absurd (a1 s hs) (lt_irr _)
      · exact e
    · rcases List.mem_cons.1 ((h s).2 (List.mem_cons_of_mem _ hs)) with e | e
      · subst e; exact absurd (b1 s hs) (lt_irr _)
      · exact e
theorem up_nodup {l : List ByteArray} (h : Up l) : l.Nodup := h.imp (fun {a b} k e => by subst e; exact lt_irr _ k)
theorem bless_eq : ∀ (x y : List UInt8), Op.bytesLess x y = decide (x < y)
  | [], [] => by simp [Op.bytesLess]
  | _ :: _, [] => by simp [Op.bytesLess]
  | [], _ :: _ => by simp [Op.bytesLess]
  | a :: x, b :: y => by
    rw [Op.bytesLess, bless_eq x y]
    rw [Bool.eq_iff_iff]
    simp [List.cons_lt_cons_iff]
theorem leB_iff {a b : ByteArray} : leB a b = true ↔ ¬ b.data.toList < a.data.toList := by
  unfold leB
  rw [bless_eq, Lib.toList_data, Lib.toList_data]
  simp only [Bool.or_eq_true, decide_eq_true_eq, beq_iff_eq]
  constructor
  · rintro (h | h)
    · exact lt_as h
    · rw [h]; exact lt_irr _
  · intro h
    rcases lt_tri a.data.toList b.data.toList with k | k | k
    · exact .inl k
    · exact .inr k
    · exact absurd k h
theorem rising_up : ∀ {l : List ByteArray}, rising l = true ↔ Up l
  | [] => by simp [rising, Up]
  | [a] => by simp [rising, Up]
  | a :: b :: r => by
    have ih := rising_up (l := b :: r)
    rw [rising, Bool.and_eq_true, ih]
    have h1 : (!leB b a) = true ↔ a.data.toList < b.data.toList := by
      have := leB_iff (a := b) (b := a)
      cases hl : leB b a
      · rw [hl] at this
        simp only [Bool.not_false, true_iff]
        exact Classical.not_not.1 fun k => by have := this.2 k; cases this
      · rw [hl] at this
        simp only [Bool.not_true, Bool.false_eq_true, false_iff]
        exact this.1 rfl
    rw [h1]
    unfold Up
    rw [List.pairwise_cons (a := a)]
    constructor
    · rintro ⟨h, k⟩
      refine ⟨fun x hx => ?_, k⟩
      rcases List.mem_cons.1 hx with rfl | hx
      · exact h
      · exact lt_tr h ((List.pairwise_cons.1 k).1 x hx)
    · rintro ⟨h, k⟩
      exact ⟨h b (List.mem_cons_self ..), k⟩

theorem rising_snoc2 : ∀ (l : List ByteArray) (y x : ByteArray), rising (l ++ [y] ++ [x]) = (rising (l ++ [y]) && !leB x y)
  | [], y, x => by simp [rising]
  | [a], y, x => by simp [rising]
  | a :: b :: l, y, x => by
    have := rising_snoc2 (b :: l) y x
    simp only [List.cons_append, rising] at this ⊢
    rw [this, Bool.and_assoc]
theorem rising_take2 {l : List ByteArray} {k : Nat} (h1 : 1 ≤ k) (h : k < l.length) : rising (l.take (k + 1)) = (rising (l.take k) && !leB l[k] (l[k - 1]'(by omega))) := by
  have e : l.take k = l.take (k - 1) ++ [l[k - 1]'(by omega)] := by
    have := List.take_succ_eq_append_getElem (l := l) (i := k - 1) (by omega)
    rwa [show k - 1 + 1 = k by omega] at this
  rw [List.take_succ_eq_append_getElem h, e, rising_snoc2]
theorem rising_front2 (l r : List ByteArray) (h : rising (l ++ r) = true) : rising l = true := rising_up.2 ((List.pairwise_append.1 (rising_up.1 h)).1)
def inB (s : ByteArray) (l : List ByteArray) : Bool := l.any fun x => decide (x = s)
theorem inB_iff {s : ByteArray} {l : List ByteArray} : inB s l = true ↔ s ∈ l := by simp [inB]
theorem inB_no {s : ByteArray} {l : List ByteArray} : inB s l = false ↔ s ∉ l := by rw [← inB_iff]; simp
/-- A pack's error behind others, but for its name. -/
def packE (ahead : List ByteArray) (p : Pn) : Nat :=
  if inB p.1 ahead = true then 7 else if 20 < p.2.length then 8 else if rising p.2 = false then 10 else if (p.2.any fun s => !(decide (s = p.1) || inB s ahead)) = true then 6 else 0
def packF (ahead : List ByteArray) (p : Pn) : Nat := if isName p.1 = true then packE ahead p else 5
/-- The error of packs, and its place. -/
def packsAt : Nat → List ByteArray → List Pn → Nat × Int
  | _, _, [] => (0, -1)
  | i, ahead, p :: r => if packF ahead p = 0 then packsAt (i + 1) (ahead ++ [p.1]) r else (packF ahead p, (i : Int))
def packsE (l : List Pn) : Nat × Int := if 40 < l.length then (8, -1) else packsAt 0 [] l
/-- Whom names need. -/
inductive Reach (l : List Pn) (names : List ByteArray) : ByteArray → Prop
  | base {s} : s ∈ names → Reach l names s
  | step {p s} : p ∈ l → Reach l names p.1 → s ∈ p.2 → Reach l names s
/-- Right packs. -/
structure Good (l : List Pn) : Prop where
  few : l.length ≤ 40
  one : (l.map (·.1)).Nodup
  isn : ∀ p ∈ l, isName p.1 = true
  up : ∀ p ∈ l, Up p.2
  less : ∀ p ∈ l, p.2.length ≤ 20
  ahead : ∀ i (h : i < l.length), ∀ s ∈ l[i].2, ∃ j, ∃ (hj : j < l.length), j ≤ i ∧ l[j].1 = s
theorem packF_zero {a : List ByteArray} {p : Pn} (h : packF a p = 0) : isName p.1 = true ∧ p.1 ∉ a ∧ p.2.length ≤ 20 ∧ Up p.2 ∧ ∀ s ∈ p.2, s = p.1 ∨ s ∈ a := by
  unfold packF packE at h
  split at h
  · rename_i h0
    split at h
    · cases h
    · rename_i h1
      split at h
      · cases h
      · rename_i h2
        split at h
        · cases h
        · rename_i h3
          split at h
          · cases h
          · rename_i h4
            refine ⟨h0, fun k => h1 (inB_iff.2 k), by omega, rising_up.1 (by simpa using h3), fun s hs => ?_⟩
            by_cases e : s = p.1
            · exact .inl e
            · refine .inr (Classical.not_not.1 fun k => h4 (List.any_eq_true.2 ⟨s, hs, ?_⟩))
              rw [inB_no.2 k]
              simp [e]
  · cases h
theorem packsAt_zero : ∀ (l : List Pn) (i : Nat) (a : List ByteArray), (packsAt i a l).1 = 0 → ∀ k (h : k < l.length), packF (a ++ (l.take k).map (·.1)) l[k] = 0
  | p :: r, i, a, h, k, hk => by
    rw [packsAt] at h
    split at h
    · rename_i h0
      cases k with
      | zero => simpa using h0
      | succ k =>
        have := packsAt_zero r (i + 1) (a ++ [p.1]) h k (by simpa using hk)
        simpa using this
    · rename_i h0
      exact absurd h h0
theorem good_of {l : List Pn} (h : (packsE l).1 = 0) : Good l := by
  unfold packsE at h
  split at h
  · cases h
  · rename_i h0
    have hk := packsAt_zero l 0 [] h
    simp only [List.nil_append] at hk
    refine ⟨by omega, ?_, ?_, ?_, ?_, ?_⟩
    · rw [List.nodup_iff_pairwise_ne, List.pairwise_iff_getElem]
      intro i j hi hj hij e
      simp only [List.length_map] at hi hj
      have := (packF_zero (hk j hj)).2.1
      refine this ?_
      simp only [List.getElem_map] at e
      rw [← e]
      exact List.mem_map.2 ⟨l[i], List.mem_take_iff_getElem.2 ⟨i, by omega, rfl⟩, rfl⟩
    · intro p hp
      obtain ⟨i, hi, rfl⟩ := List.getElem_of_mem hp
      exact (packF_zero (hk i hi)).1
    · intro p hp
      obtain ⟨i, hi, rfl⟩ := List.getElem_of_mem hp
      exact (packF_zero (hk i hi)).2.2.2.1
    · intro p hp
      obtain ⟨i, hi, rfl⟩ := List.getElem_of_mem hp
      exact (packF_zero (hk i hi)).2.2.1
    · intro i hi s hs
      rcases (packF_zero (hk i hi)).2.2.2.2 s hs with e | e
      · exact ⟨i, hi, Nat.le_refl _, e.symm⟩
      · obtain ⟨p, hp, rfl⟩ := List.mem_map.1 e
        obtain ⟨j, hj, rfl⟩ := List.mem_take_iff_getElem.1 hp
        exact ⟨j, by omega, by omega, rfl⟩
theorem Reach.mono {l : List Pn} {a b : List ByteArray} (h : ∀ s ∈ a, Reach l b s) {s : ByteArray} (hs : Reach l a s) : Reach l b s := by
  induction hs with
  | base k => exact h _ k
  | step hp _ hs ih => exact .step hp ih hs
/-- A closure: rising, whom the names need. -/
def Clo (l : List Pn) (names c : List ByteArray) : Prop := Up c ∧ ∀ s, s ∈ c ↔ Reach l names s
theorem Clo.again {l : List Pn} {n c d : List ByteArray} (h : Clo l n c) (k : Clo l c d) : d = c :=
  up_eq k.1 h.1 (fun s => ⟨fun hs => (h.2 s).2 (((k.2 s).1 hs).mono (fun t ht => (h.2 t).1 ht)), fun hs => (k.2 s).2 (.base hs)⟩)
theorem Clo.one {l : List Pn} {n c d : List ByteArray} (h : Clo l n c) (k : Clo l n d) : d = c :=
  up_eq k.1 h.1 (fun s => by rw [k.2, h.2])
/-- All names that are needed are names of packs. -/
theorem reach_in {l : List Pn} (hg : Good l) {n : List ByteArray} (hn : ∀ s ∈ n, s ∈ l.map (·.1)) {s : ByteArray} (h : Reach l n s) : s ∈ l.map (·.1) := by
  induction h with
  | base k => exact hn _ k
  | step hp _ hs _ =>
    obtain ⟨i, hi, rfl⟩ := List.getElem_of_mem hp
    obtain ⟨j, hj, -, e⟩ := hg.ahead i hi _ hs
    exact List.mem_map.2 ⟨l[j], List.getElem_mem hj, e⟩
end Go.Proofs.YtlcabkhalockpaaGreatDoor
