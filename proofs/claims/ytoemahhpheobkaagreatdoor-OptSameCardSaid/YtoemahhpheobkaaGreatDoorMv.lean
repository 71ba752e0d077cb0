/- Packs in plain words: their errors, whom one needs. No condition. · A map from texts to values of a known list, that the calls themselves have made: looking up, storing, its keys. Condition: the map's types are those of the walk. · A map from ints to values of a known list, that the calls themselves have made: looking up, storing, deleting, its keys. Condition: the map's types are those of the walk. -/
import Derived.Test.YtoemahhpheobkaaGreatDoorTrO
import Derived.Test.YtoemahhpheobkaaGreatDoorB
import Derived.Test.YtoemahhpheobkaaGreatDoorProg
import Derived.Maps.OwnSet
import Derived.Maps.OwnOps
import Derived.StringKeys
import Derived.Sort.KeysCollected
import Derived.Lib.SlKeysI
namespace Go.Proofs.YtoemahhpheobkaaGreatDoor
open Go.RowKit

/-- A pack: its name, whom it needs. -/
abbrev Pn := ByteArray × List ByteArray
/-- A rising row of texts. -/
def Up (l : List ByteArray) : Prop := l.Pairwise fun a b => a.data.toList < b.data.toList
theorem toList_inj {a b : ByteArray} (h : a.data.toList = b.data.toList) : a = b := by
  obtain ⟨⟨x⟩⟩ := a
  obtain ⟨⟨y⟩⟩ := b
  simp at h
  rw [h]
theorem lt_irr (a : List UInt8) : ¬ a < a := List.lt_irrefl a
theorem lt_tr {a b c : List UInt8} (h : a < b) (k : b < c) : a < c := List.lt_trans h k
theorem lt_as {a b : List UInt8} (h : a < b) : ¬ b < a := fun k => lt_irr a (lt_tr h k)
theorem lt_tri (a b : List UInt8) : a < b ∨ a = b ∨ b < a := by
  by_cases h : a < b
  · exact .inl h
  · by_cases k : b < a
    · exact .inr (.inr k)
    · exact .inr (.inl (List.le_antisymm (List.not_lt.1 k) (List.not_lt.1 h)))
/-- Two rising rows of the same texts are one. -/
theorem up_eq : ∀ {a b : List ByteArray}, Up a → Up b → (∀ s, s ∈ a ↔ s ∈ b) → a = b
  | [], [], _, _, _ => rfl
  | [], y :: b, _, _, h => by have := (h y).2 (List.mem_cons_self ..); cases this
  | x :: a, [], _, _, h => by have := (h x).1 (List.mem_cons_self ..); cases this
  | x :: a, y :: b, ha, hb, h => by
    obtain ⟨a1, a2⟩ := List.pairwise_cons.1 ha
    obtain ⟨b1, b2⟩ := List.pairwise_cons.1 hb
    have hxy : x = y := by
      rcases List.mem_cons.1 ((h x).1 (List.mem_cons_self ..)) with e | e
      · exact e
      · rcases List.mem_cons.1 ((h y).2 (List.mem_cons_self ..)) with e' | e'
        · exact e'.symm
        · exact absurd (b1 x e) (lt_as (a1 y e'))
    subst hxy
    congr 1
    refine up_eq a2 b2 (fun s => ⟨fun hs => ?_, fun hs => ?_⟩)
    · rcases List.mem_cons.1 ((h s).1 (List.mem_cons_of_mem _ hs)) with e | e
      · subst e; exact absurd (a1 s hs) (lt_irr _)
      · exact e
    · rcases List.mem_cons.1 ((h s).2 (List.mem_cons_of_mem _ hs)) with e | e
      · subst e; exact absurd (b1 s hs) (lt_irr _)
      · exact e
theorem up_nodup {l : List ByteArray} (h : Up l) : l.Nodup := h.imp (fun {a b} k e => by subst e; exact lt_irr _ k)
theorem bless_eq : ∀ (x y : List UInt8), Op.bytesLess x y = decide (x < y)
  | [], [] => by simp [Op.bytesLess]
  | _ :: _, [] => by simp [Op.bytesLess]
  | [], _ :: _ => by simp [Op.bytesLess]
  | a :: x, b :: y => by
    rw [Op.bytesLess, bless_eq x y]
    rw [Bool.eq_iff_iff]
    simp [List.cons_lt_cons_iff]
theorem leB_iff {a b : ByteArray} : leB a b = true ↔ ¬ b.data.toList < a.data.toList := by
  unfold leB
  rw [bless_eq, Lib.toList_data, Lib.toList_data]
  simp only [Bool.or_eq_true, decide_eq_true_eq, beq_iff_eq]
  constructor
  · rintro (h | h)
    · exact lt_as h
    · rw [h]; exact lt_irr _
  · intro h
    rcases lt_tri a.data.toList b.data.toList with k | k | k
    · exact .inl k
    · exact .inr k
    · exact absurd k h
theorem rising_up : ∀ {l : List ByteArray}, rising l = true ↔ Up l
  | [] => by simp [rising, Up]
  | [a] => by simp [rising, Up]
  | a :: b :: r => by
    have ih := rising_up (l := b :: r)
    rw [rising, Bool.and_eq_true, ih]
    have h1 : (!leB b a) = true ↔ a.data.toList < b.data.toList := by
      have := leB_iff (a := b) (b := a)
      cases hl : leB b a
      · rw [hl] at this
        simp only [Bool.not_false, true_iff]
        exact Classical.not_not.1 fun k => by have := this.2 k; cases this
      · rw [hl] at this
        simp only [Bool.not_true, Bool.false_eq_true, false_iff]
        exact this.1 rfl
    rw [h1]
    unfold Up
    rw [List.pairwise_cons (a := a)]
    constructor
    · rintro ⟨h, k⟩
      refine ⟨fun x hx => ?_, k⟩
      rcases List.mem_cons.1 hx with rfl | hx
      · exact h
      · exact lt_tr h ((List.pairwise_cons.1 k).1 x hx)
    · rintro ⟨h, k⟩
      exact ⟨h b (List.mem_cons_self ..), k⟩

theorem rising_snoc2 : ∀ (l : List ByteArray) (y x : ByteArray), rising (l ++ [y] ++ [x]) = (rising (l ++ [y]) && !leB x y)
  | [], y, x => by simp [rising]
  | [a], y, x => by simp [rising]
  | a :: b :: l, y, x => by
    have := rising_snoc2 (b :: l) y x
    simp only [List.cons_append, rising] at this ⊢
    rw [this, Bool.and_assoc]
theorem rising_take2 {l : List ByteArray} {k : Nat} (h1 : 1 ≤ k) (h : k < l.length) : rising (l.take (k + 1)) = (rising (l.take k) && !leB l[k] (l[k - 1]'(by omega))) := by
  have e : l.take k = l.take (k - 1) ++ [l[k - 1]'(by omega)] := by
    have := List.take_succ_eq_append_getElem (l := l) (i := k - 1) (by omega)
    rwa [show k - 1 + 1 = k by omega] at this
  rw [List.take_succ_eq_append_getElem h, e, rising_snoc2]
theorem rising_front2 (l r : List ByteArray) (h : rising (l ++ r) = true) : rising l = true := rising_up.2 ((List.pairwise_append.1 (rising_up.1 h)).1)
def inB (s : ByteArray) (l : List ByteArray) : Bool := l.any fun x => decide (x = s)
theorem inB_iff {s : ByteArray} {l : List ByteArray} : inB s l = true ↔ s ∈ l := by simp [inB]
theorem inB_no {s : ByteArray} {l : List ByteArray} : inB s l = false ↔ s ∉ l := by rw [← inB_iff]; simp
/-- A pack's error behind others, but for its name. -/
def packE (ahead : List ByteArray) (p : Pn) : Nat :=
  if inB p.1 ahead = true then 7 else if 20 < p.2.length then 8 else if rising p.2 = false then 10 else if (p.2.any fun s => !(decide (s = p.1) || inB s ahead)) = true then 6 else 0
def packF (ahead : List ByteArray) (p : Pn) : Nat := if isName p.1 = true then packE ahead p else 5
/-- The error of packs, and its place. -/
def packsAt : Nat → List ByteArray → List Pn → Nat × Int
  | _, _, [] => (0, -1)
  | i, ahead, p :: r => if packF ahead p = 0 then packsAt (i + 1) (ahead ++ [p.1]) r else (packF ahead p, (i : Int))
def packsE (l : List Pn) : Nat × Int := if 40 < l.length then (8, -1) else packsAt 0 [] l
/-- Whom names need. -/
inductive Reach (l : List Pn) (names : List ByteArray) : ByteArray → Prop
  | base {s} : s ∈ names → Reach l names s
  | step {p s} : p ∈ l → Reach l names p.1 → s ∈ p.2 → Reach l names s
/-- Right packs. -/
structure Good (l : List Pn) : Prop where
  few : l.length ≤ 40
  one : (l.map (·.1)).Nodup
  isn : ∀ p ∈ l, isName p.1 = true
  up : ∀ p ∈ l, Up p.2
  less : ∀ p ∈ l, p.2.length ≤ 20
  ahead : ∀ i (h : i < l.length), ∀ s ∈ l[i].2, ∃ j, ∃ (hj : j < l.length), j ≤ i ∧ l[j].1 = s
theorem packF_zero {a : List ByteArray} {p : Pn} (h : packF a p = 0) : isName p.1 = true ∧ p.1 ∉ a ∧ p.2.length ≤ 20 ∧ Up p.2 ∧ ∀ s ∈ p.2, s = p.1 ∨ s ∈ a := by
  unfold packF packE at h
  split at h
  · rename_i h0
    split at h
    · cases h
    · rename_i h1
      split at h
      · cases h
      · rename_i h2
        split at h
        · cases h
        · rename_i h3
          split at h
          · cases h
          · rename_i h4
            refine ⟨h0, fun k => h1 (inB_iff.2 k), by omega, rising_up.1 (by simpa using h3), fun s hs => ?_⟩
            by_cases e : s = p.1
            · exact .inl e
            · refine .inr (Classical.not_not.1 fun k => h4 (List.any_eq_true.2 ⟨s, hs, ?_⟩))
              rw [inB_no.2 k]
              simp [e]
  · cases h
theorem packsAt_zero : ∀ (l : List Pn) (i : Nat) (a : List ByteArray), (packsAt i a l).1 = 0 → ∀ k (h : k < l.length), packF (a ++ (l.take k).map (·.1)) l[k] = 0
  | p :: r, i, a, h, k, hk => by
    rw [packsAt] at h
    split at h
    · rename_i h0
      cases k with
      | zero => simpa using h0
      | succ k =>
        have := packsAt_zero r (i + 1) (a ++ [p.1]) h k (by simpa using hk)
        simpa using this
    · rename_i h0
      exact absurd h h0
theorem good_of {l : List Pn} (h : (packsE l).1 = 0) : Good l := by
  unfold packsE at h
  split at h
  · cases h
  · rename_i h0
    have hk := packsAt_zero l 0 [] h
    simp only [List.nil_append] at hk
    refine ⟨by omega, ?_, ?_, ?_, ?_, ?_⟩
    · rw [List.nodup_iff_pairwise_ne, List.pairwise_iff_getElem]
      intro i j hi hj hij e
      simp only [List.length_map] at hi hj
      have := (packF_zero (hk j hj)).2.1
      refine this ?_
      simp only [List.getElem_map] at e
      rw [← e]
      exact List.mem_map.2 ⟨l[i], List.mem_take_iff_getElem.2 ⟨i, by omega, rfl⟩, rfl⟩
    · intro p hp
      obtain ⟨i, hi, rfl⟩ := List.getElem_of_mem hp
      exact (packF_zero (hk i hi)).1
    · intro p hp
      obtain ⟨i, hi, rfl⟩ := List.getElem_of_mem hp
      exact (packF_zero (hk i hi)).2.2.2.1
    · intro p hp
      obtain ⟨i, hi, rfl⟩ := List.getElem_of_mem hp
      exact (packF_zero (hk i hi)).2.2.1
    · intro i hi s hs
      rcases (packF_zero (hk i hi)).2.2.2.2 s hs with e | e
      · exact ⟨i, hi, Nat.le_refl _, e.symm⟩
      · obtain ⟨p, hp, rfl⟩ := List.mem_map.1 e
        obtain ⟨j, hj, rfl⟩ := List.mem_take_iff_getElem.1 hp
        exact ⟨j, by omega, by omega, rfl⟩
theorem Reach.mono {l : List Pn} {a b : List ByteArray} (h : ∀ s ∈ a, Reach l b s) {s : ByteArray} (hs : Reach l a s) : Reach l b s := by
  induction hs with
  | base k => exact h _ k
  | step hp _ hs ih => exact .step hp ih hs
/-- A closure: rising, whom the names need. -/
def Clo (l : List Pn) (names c : List ByteArray) : Prop := Up c ∧ ∀ s, s ∈ c ↔ Reach l names s
theorem Clo.again {l : List Pn} {n c d : List ByteArray} (h : Clo l n c) (k : Clo l c d) : d = c :=
  up_eq k.1 h.1 (fun s => ⟨fun hs => (h.2 s).2 (((k.2 s).1 hs).mono (fun t ht => (h.2 t).1 ht)), fun hs => (k.2 s).2 (.base hs)⟩)
theorem Clo.one {l : List Pn} {n c d : List ByteArray} (h : Clo l n c) (k : Clo l n d) : d = c :=
  up_eq k.1 h.1 (fun s => by rw [k.2, h.2])
/-- All names that are needed are names of packs. -/
theorem reach_in {l : List Pn} (hg : Good l) {n : List ByteArray} (hn : ∀ s ∈ n, s ∈ l.map (·.1)) {s : ByteArray} (h : Reach l n s) : s ∈ l.map (·.1) := by
  induction h with
  | base k => exact hn _ k
  | step hp _ hs _ =>
    obtain ⟨i, hi, rfl⟩ := List.getElem_of_mem hp
    obtain ⟨j, hj, -, e⟩ := hg.ahead i hi _ hs
    exact List.mem_map.2 ⟨l[j], List.getElem_mem hj, e⟩
end Go.Proofs.YtoemahhpheobkaaGreatDoor

namespace Go.Proofs.YtoemahhpheobkaaGreatDoor
open Go.RowKit Go.Maps

open Classical in
/-- A value's place in a list. -/
noncomputable def ix (vals : List Value) (v : Value) : Nat := vals.findIdx fun u => decide (u = v)
theorem ix_at {vals : List Value} {v : Value} (h : v ∈ vals) : vals[ix vals v]? = some v := by
  classical
  have hlt : ix vals v < vals.length := List.findIdx_lt_length_of_exists ⟨v, h, by simp⟩
  rw [List.getElem?_eq_getElem hlt]
  have := List.findIdx_getElem (w := hlt)
  simp only [decide_eq_true_eq] at this
  exact congrArg some this
theorem ix_inj {vals : List Value} {u v : Value} (hu : u ∈ vals) (hv : v ∈ vals) (h : ix vals u = ix vals v) : u = v := by
  have h1 := ix_at hu
  rw [h, ix_at hv] at h1
  exact (Option.some.inj h1).symm
open Classical in
/-- How a value of the list reads: by its place. -/
noncomputable def vElem (vals : List Value) (v : Value) : Option (DataW Unit × List MemPlace) := if v ∈ vals then some (.lit (.int .i64 (ix vals v : Int)), []) else none
theorem vElem_some {vals : List Value} {v : Value} (h : v ∈ vals) : vElem vals v = some (.lit (.int .i64 (ix vals v : Int)), []) := if_pos h
theorem vElem_inv {vals : List Value} {u v : Value} {ps : List MemPlace} (hu : u ∈ vals) (h : vElem vals v = some (.lit (.int .i64 (ix vals u : Int)), ps)) : v = u := by
  unfold vElem at h
  split at h
  · rename_i hv
    simp only [Option.some.injEq, Prod.mk.injEq, DataW.lit.injEq, Lit.int.injEq, true_and] at h
    exact ix_inj hv hu (Int.ofNat.inj h.1)
  · cases h

/-- Block m is a map of at most n entries that holds f s at s. -/
def MapS (vals : List Value) (w : World) (m n : Nat) (f : ByteArray → Option Value) : Prop :=
  ∃ D : DataW Unit, w.ownsMap Tryz.prog 9 (vElem vals) m n D ∧ (∀ s v, f s = some v → v ∈ vals) ∧ ∀ s z, D.atKey (.string s.data.toList) z = (match f s with | some v => .lit (.int .i64 (ix vals v : Int)) | none => z)

section
variable {vals : List Value} {w w' : World} {m n : Nat} {f : ByteArray → Option Value} {t e : TypeId} {z : Value}
theorem MapS.new (vals : List Value) (w : World) : MapS vals (w.alloc (.map #[] 0)) w.heap.size 0 (fun _ => none) := ⟨.map [], World.ownsMap_made w _ _ _, fun _ _ h => absurd h (by simp), fun _ _ => rfl⟩
theorem MapS.lt (h : MapS vals w m n f) : m < w.heap.size := by obtain ⟨D, hD, -⟩ := h; exact hD.lt
theorem MapS.fr {S : Nat → Prop} (h : MapS vals w m n f) (hf : Fr S w w') (hS : ¬ S m) : MapS vals w' m n f := by
  obtain ⟨D, ⟨es, clock, hb, r⟩, hk⟩ := h
  exact ⟨D, ⟨es, clock, hf.heap hb hS, r⟩, hk⟩
theorem MapS.ob {B : Nat} (h : MapS vals w m n f) (hf : Below B w w') (hB : m < B) : MapS vals w' m n f := by
  obtain ⟨D, ⟨es, clock, hb, r⟩, hk⟩ := h
  exact ⟨D, ⟨es, clock, (hf.block m hB).trans hb, r⟩, hk⟩
theorem MapS.low (h : MapS vals w m n f) (hf : Below w.heap.size w w') : MapS vals w' m n f := h.ob hf h.lt
theorem MapS.mono (h : MapS vals w m n f) {n' : Nat} (hn : n ≤ n') : MapS vals w m n' f := by
  obtain ⟨D, hD, hk⟩ := h
  exact ⟨D, hD.mono hn, hk⟩
theorem MapS.ne_blk {b : Nat} {cs : List Value} {T : TypeId} (h : MapS vals w m n f) (hb : Blk w b cs T) : m ≠ b := by
  rintro rfl
  obtain ⟨D, ⟨es, clock, hh, -⟩, -⟩ := h
  unfold Blk at hb
  rw [hh] at hb
  cases hb
theorem hasS {D : DataW Unit} {k : Lit} {o : Option Value} (h : ∀ z, D.atKey k z = (match o with | some v => .lit (.int .i64 (ix vals v : Int)) | none => z)) : Maps.has D k = o.isSome := by
  cases o with
  | none => exact Maps.has_false_of_atKey h
  | some b => exact Maps.has_true_of_atKey h
theorem keyS {s : ByteArray} (hs : s.size ≤ 9223372036854775807) : keyOf Tryz.prog 9 (.string s) = some (.string s.data.toList) := WideMaps.keyOf_string_mk Tryz.underlying9 (by unfold maxLen; omega)
theorem MapS.look (h : MapS vals w m n f) (ht : Tryz.prog.underlying t = some (.map 9 e)) (hz : (zeroValue e).run Tryz.prog w = .ok z w) (hzv : z ∈ vals) {s : ByteArray} (hs : s.size ≤ 9223372036854775807) :
    (Instr.lookup t (.map (some m)) (.string s) false).run Tryz.prog w = .ok ((f s).getD z) w := by
  obtain ⟨D, hD, hv, hf⟩ := h
  obtain ⟨v, ps, hrun, hR⟩ := hD.lookup (Maps.string_keyed Tryz.underlying9) ht hz (vElem_some hzv) (keyS hs)
  rw [hrun]
  rw [hf s] at hR
  cases hfs : f s with
  | none => rw [hfs] at hR; rw [vElem_inv hzv hR]; rfl
  | some u => rw [hfs] at hR; rw [vElem_inv (hv s u hfs) hR]; rfl
theorem MapS.look_ok (h : MapS vals w m n f) (ht : Tryz.prog.underlying t = some (.map 9 e)) (hz : (zeroValue e).run Tryz.prog w = .ok z w) (hzv : z ∈ vals) {s : ByteArray} (hs : s.size ≤ 9223372036854775807) :
    (Instr.lookup t (.map (some m)) (.string s) true).run Tryz.prog w = .ok (.tuple #[(f s).getD z, .bool (f s).isSome]) w := by
  obtain ⟨D, hD, hv, hf⟩ := h
  obtain ⟨v, ps, hrun, hR⟩ := hD.look_ok (Maps.string_keyed Tryz.underlying9) ht hz (vElem_some hzv) (keyS hs)
  rw [hrun, hasS (hf s)]
  rw [hf s] at hR
  cases hfs : f s with
  | none => rw [hfs] at hR; rw [vElem_inv hzv hR]; rfl
  | some u => rw [hfs] at hR; rw [vElem_inv (hv s u hfs) hR]; rfl
theorem turnedS (h : w.mapTurned w' m) : Fr (fun b => b = m) w w' := (Fr.refl _ w).grown h.grown (fun _ hk => .inl (Option.some.inj hk).symm)
theorem upd_ok {w' : World} {D : DataW Unit} (hD : w.ownsMap Tryz.prog 9 (vElem vals) m n D) (hvs : ∀ s v, f s = some v → v ∈ vals) (hf : ∀ s z, D.atKey (.string s.data.toList) z = (match f s with | some v => .lit (.int .i64 (ix vals v : Int)) | none => z)) (s : ByteArray) (v : Value) (hvv : v ∈ vals)
    (hD' : w'.ownsMap Tryz.prog 9 (vElem vals) m (n + 1) (D.put (.string s.data.toList) (.lit (.int .i64 (ix vals v : Int))))) : MapS vals w' m (n + 1) (fun i => if i = s then some v else f i) := by
  refine ⟨_, hD', fun i u hi => ?_, fun i z => ?_⟩
  · by_cases hie : i = s
    · simp only [if_pos hie, Option.some.injEq] at hi
      subst hi; exact hvv
    · simp only [if_neg hie] at hi
      exact hvs i u hi
  · by_cases e : i = s
    · subst e
      rw [Maps.atKey_put_same hD.isMap (show WideAt.IsKeyLit (.string i.data.toList) from trivial)]
      simp
    · rw [Maps.atKey_put_other (by
        intro k
        exact e (toList_inj (by simpa using k)))]
      simp only [if_neg e]
      exact hf i z
/-- Storing: the operation's run, and what it leaves. -/
theorem MapS.store (h : MapS vals w m n f) (ht : Tryz.prog.underlying t = some (.map 9 e)) (hn : n ≤ 1000000) (s : ByteArray) (v : Value) (hvv : v ∈ vals) (hs : s.size ≤ 9223372036854775807) :
    ∃ w', (Instr.mapUpdate t (.map (some m)) (.string s) v).run Tryz.prog w = .ok () w' ∧ MapS vals w' m (n + 1) (fun i => if i = s then some v else f i) ∧ Fr (fun b => b = m) w w' := by
  obtain ⟨D, hD, hvs, hf⟩ := h
  obtain ⟨w', hrun, r1, r2⟩ := hD.store (Maps.string_keyed Tryz.underlying9) ht (by unfold maxLen; omega) (keyS hs) (vElem_some hvv)
  exact ⟨w', hrun, upd_ok hD hvs hf s v hvv r1, turnedS r2⟩
/-- The keys, in any order: each once, those that are there. -/
theorem MapS.keys (h : MapS vals w m n f) : ∃ D : DataW Unit, w.ownsMap Tryz.prog 9 (vElem vals) m n D ∧ (strKeys D).Nodup ∧ (∀ x, x ∈ strKeys D ↔ (f ⟨x.toArray⟩).isSome = true) ∧ Maps.size D ≤ n := by
  obtain ⟨D, hD, -, hf⟩ := h
  refine ⟨D, hD, ?_, ?_, hD.size_le⟩
  · obtain ⟨es, hD1, hpw, _⟩ := hD.entries (Maps.string_keyed Tryz.underlying9)
    obtain ⟨es', hD2, hk⟩ := hD.keysOf
    obtain rfl : es = es' := by rw [hD1] at hD2; simpa using hD2
    subst hD1
    show (List.map (fun p : Lit × DataW Unit => strOf p.1) es).Nodup
    refine List.pairwise_map.2 (hpw.imp_of_mem fun {p q} hp' hq' hne e => hne ?_)
    obtain ⟨a, ha⟩ := hk p hp'
    obtain ⟨b, hb⟩ := hk q hq'
    obtain ⟨x, -, ha, -⟩ := Maps.keyOf_str Tryz.underlying9 ha
    obtain ⟨y, -, hb, -⟩ := Maps.keyOf_str Tryz.underlying9 hb
    rw [ha, hb] at e ⊢
    exact congrArg _ e
  · intro x
    have h1 := hasS (hf ⟨x.toArray⟩)
    simp only at h1
    rw [← h1]
    obtain ⟨es, rfl, hk⟩ := hD.keysOf
    simp only [Maps.has_eq, List.any_eq_true]
    show x ∈ es.map (fun p => strOf p.1) ↔ _
    rw [List.mem_map]
    constructor
    · rintro ⟨p, hp, rfl⟩
      obtain ⟨v, hv⟩ := hk p hp
      obtain ⟨y, -, hy, -⟩ := Maps.keyOf_str Tryz.underlying9 hv
      refine ⟨p, hp, ?_⟩
      rw [hy]
      exact (WideAt.sameKey_iff (show WideAt.IsKeyLit (.string y) from trivial)).2 rfl
    · rintro ⟨p, hp, he⟩
      obtain ⟨v, hv⟩ := hk p hp
      obtain ⟨y, -, hy, -⟩ := Maps.keyOf_str Tryz.underlying9 hv
      refine ⟨p, hp, ?_⟩
      have := (WideAt.sameKey_iff (show WideAt.IsKeyLit (.string x) from trivial)).1 he
      rw [this]
      rfl
end

section
variable (w : World) {ops : Array Oper} {rest : List Oper} {o : Oper} {a : Act} {Q : Exit → Act → World → Prop} {vals : List Value} {m n : Nat} {f : ByteArray → Option Value}
/-- m[s] = v. -/
theorem wpList_mapS (hg : o.guard = none) (mo xo vo : Operand) (t e : TypeId) (hop : o.op = Op.mapUpdate t mo xo vo) (ht : Tryz.prog.underlying t = some (.map 9 e)) (hm : a.eval mo = .map (some m)) (h : MapS vals w m n f) (hn : n ≤ 1000000) (s : ByteArray) (v : Value) (hx : a.eval xo = .string s) (hv : a.eval vo = v) (hvv : v ∈ vals)
    (hs : s.size ≤ 9223372036854775807)
    (hK : ∀ w', MapS vals w' m (n + 1) (fun i => if i = s then some v else f i) → Fr (fun b => b = m) w w' → wpList Tryz.prog ops Q rest (a.put o.dst undef) w') :
    wpList Tryz.prog ops Q (o :: rest) a w := by
  obtain ⟨D, hD, hvs, hf⟩ := h
  refine wpList_mapUpdate_in w hg mo xo vo _ hop 9 e (Maps.string_keyed Tryz.underlying9) ht (vElem vals) m n D hm hD (by unfold maxLen; omega) _ _ _ hx hv (keyS hs) _ [] (vElem_some hvv) (fun w' hD' ht => hK w' (upd_ok hD hvs hf s v hvv hD') (turnedS ht))
end
end Go.Proofs.YtoemahhpheobkaaGreatDoor

namespace Go.Proofs.YtoemahhpheobkaaGreatDoor
open Go.RowKit Go.Maps

/-- Block m is a map of at most n entries that holds f k at k. -/
def MapV (vals : List Value) (w : World) (m n : Nat) (f : Int → Option Value) : Prop :=
  ∃ D : DataW Unit, w.ownsMap Tryz.prog 3 (vElem vals) m n D ∧ (∀ s v, f s = some v → v ∈ vals) ∧ ∀ k, -9223372036854775808 ≤ k ∧ k ≤ 9223372036854775807 → ∀ z, D.atKey (.int .i64 k) z = (match f k with | some v => .lit (.int .i64 (ix vals v : Int)) | none => z)

section
variable {vals : List Value} {w w' : World} {m n : Nat} {f : Int → Option Value} {t e : TypeId} {z : Value}
theorem MapV.new (vals : List Value) (w : World) : MapV vals (w.alloc (.map #[] 0)) w.heap.size 0 (fun _ => none) := ⟨.map [], World.ownsMap_made w _ _ _, fun _ _ h => absurd h (by simp), fun _ _ _ => rfl⟩
theorem MapV.lt (h : MapV vals w m n f) : m < w.heap.size := by obtain ⟨D, hD, -⟩ := h; exact hD.lt
theorem MapV.fr {S : Nat → Prop} (h : MapV vals w m n f) (hf : Fr S w w') (hS : ¬ S m) : MapV vals w' m n f := by
  obtain ⟨D, ⟨es, clock, hb, r⟩, hk⟩ := h
  exact ⟨D, ⟨es, clock, hf.heap hb hS, r⟩, hk⟩
theorem MapV.low (h : MapV vals w m n f) (hf : Below w.heap.size w w') : MapV vals w' m n f := by
  have hl := h.lt
  obtain ⟨D, ⟨es, clock, hb, r⟩, hk⟩ := h
  exact ⟨D, ⟨es, clock, (hf.block m hl).trans hb, r⟩, hk⟩
theorem MapV.mono (h : MapV vals w m n f) {n' : Nat} (hn : n ≤ n') : MapV vals w m n' f := by
  obtain ⟨D, hD, hk⟩ := h
  exact ⟨D, hD.mono hn, hk⟩
theorem MapV.ne_blk {b : Nat} {cs : List Value} {T : TypeId} (h : MapV vals w m n f) (hb : Blk w b cs T) : m ≠ b := by
  rintro rfl
  obtain ⟨D, ⟨es, clock, hh, -⟩, -⟩ := h
  unfold Blk at hb
  rw [hh] at hb
  cases hb
theorem wfV {k : Int} (hk : -9223372036854775808 ≤ k ∧ k ≤ 9223372036854775807) : (Lit.int .i64 k).wf = true := WalkArith.wf_i64 hk
theorem keyV {k : Int} (hk : -9223372036854775808 ≤ k ∧ k ≤ 9223372036854775807) : keyOf Tryz.prog 3 (.int .i64 k) = some (.int .i64 k) := Maps.keyOf_int_mk Tryz.underlying3 (wfV hk)
theorem MapV.look (h : MapV vals w m n f) (ht : Tryz.prog.underlying t = some (.map 3 e)) (hz : (zeroValue e).run Tryz.prog w = .ok z w) (hzv : z ∈ vals) {k : Int} (hk : -9223372036854775808 ≤ k ∧ k ≤ 9223372036854775807) :
    (Instr.lookup t (.map (some m)) (.int .i64 k) false).run Tryz.prog w = .ok ((f k).getD z) w := by
  obtain ⟨D, hD, hv, hf⟩ := h
  obtain ⟨v, ps, hrun, hR⟩ := hD.lookup (Maps.int_keyed Tryz.underlying3) ht hz (vElem_some hzv) (keyV hk)
  rw [hrun]
  rw [hf k hk] at hR
  cases hfs : f k with
  | none => rw [hfs] at hR; rw [vElem_inv hzv hR]; rfl
  | some u => rw [hfs] at hR; rw [vElem_inv (hv k u hfs) hR]; rfl
theorem MapV.look_ok (h : MapV vals w m n f) (ht : Tryz.prog.underlying t = some (.map 3 e)) (hz : (zeroValue e).run Tryz.prog w = .ok z w) (hzv : z ∈ vals) {k : Int} (hk : -9223372036854775808 ≤ k ∧ k ≤ 9223372036854775807) :
    (Instr.lookup t (.map (some m)) (.int .i64 k) true).run Tryz.prog w = .ok (.tuple #[(f k).getD z, .bool (f k).isSome]) w := by
  obtain ⟨D, hD, hv, hf⟩ := h
  obtain ⟨v, ps, hrun, hR⟩ := hD.look_ok (Maps.int_keyed Tryz.underlying3) ht hz (vElem_some hzv) (keyV hk)
  rw [hrun, hasS (hf k hk)]
  rw [hf k hk] at hR
  cases hfs : f k with
  | none => rw [hfs] at hR; rw [vElem_inv hzv hR]; rfl
  | some u => rw [hfs] at hR; rw [vElem_inv (hv k u hfs) hR]; rfl
/-- Storing: the operation's run, and what it leaves. -/
theorem MapV.store (h : MapV vals w m n f) (ht : Tryz.prog.underlying t = some (.map 3 e)) (hn : n ≤ 1000000) (k : Int) (v : Value) (hvv : v ∈ vals) (hk : -9223372036854775808 ≤ k ∧ k ≤ 9223372036854775807) :
    ∃ w', (Instr.mapUpdate t (.map (some m)) (.int .i64 k) v).run Tryz.prog w = .ok () w' ∧ MapV vals w' m (n + 1) (fun i => if i = k then some v else f i) ∧ Fr (fun b => b = m) w w' := by
  obtain ⟨D, hD, hvs, hf⟩ := h
  obtain ⟨w', hrun, r1, r2⟩ := hD.store (Maps.int_keyed Tryz.underlying3) ht (by unfold maxLen; omega) (keyV hk) (vElem_some hvv)
  refine ⟨w', hrun, ⟨_, r1, fun i u hi => ?_, fun i hi z => ?_⟩, turnedS r2⟩
  · by_cases hie : i = k
    · simp only [if_pos hie, Option.some.injEq] at hi
      subst hi; exact hvv
    · simp only [if_neg hie] at hi
      exact hvs i u hi
  · by_cases e : i = k
    · subst e
      rw [Maps.atKey_put_same hD.isMap (show WideAt.IsKeyLit (.int .i64 i) from trivial)]
      simp
    · rw [Maps.atKey_put_other (by simpa using e)]
      simp only [if_neg e]
      exact hf i hi z
/-- The keys, in any order: each once, those that are there. -/
theorem MapV.keys (h : MapV vals w m n f) : ∃ D : DataW Unit, w.ownsMap Tryz.prog 3 (vElem vals) m n D ∧ (intKeys D).Nodup ∧ (∀ x ∈ intKeys D, -9223372036854775808 ≤ x ∧ x ≤ 9223372036854775807) ∧ (∀ x, -9223372036854775808 ≤ x ∧ x ≤ 9223372036854775807 → (x ∈ intKeys D ↔ (f x).isSome = true)) ∧ Maps.size D ≤ n ∧ (intKeys D).length ≤ n := by
  obtain ⟨D, hD, -, hf⟩ := h
  have hwf := intKeys_wf hD Tryz.underlying3
  obtain ⟨es, hD1, hpw, _⟩ := hD.entries (Maps.int_keyed Tryz.underlying3)
  obtain ⟨es', hD2, hk⟩ := hD.keysOf
  obtain rfl : es = es' := by rw [hD1] at hD2; simpa using hD2
  have hks : ∀ p ∈ es, ∃ x, p.1 = .int .i64 x := fun p hp => by obtain ⟨v, hv⟩ := hk p hp; obtain ⟨x, _, hx, _⟩ := Maps.keyOf_i64 Tryz.underlying3 hv; exact ⟨x, hx⟩
  refine ⟨D, hD, ?_, fun x hx => ?_, fun x hx => ?_, hD.size_le, ?_⟩
  · subst hD1
    show (List.map (fun p : Lit × DataW Unit => Go.intOf p.1) es).Nodup
    refine List.pairwise_map.2 (hpw.imp_of_mem fun {p q} hp' hq' hne e => hne ?_)
    obtain ⟨a, ha⟩ := hks p hp'
    obtain ⟨b, hb⟩ := hks q hq'
    rw [ha, hb] at e ⊢
    exact congrArg _ e
  · have := hwf x hx
    simp [Lit.wf, IntKind.min, IntKind.max, IntKind.signed, IntKind.bits] at this
    omega
  · rw [← hasS (hf x hx)]
    subst hD1
    rw [Maps.has_eq, List.any_eq_true]
    show x ∈ es.map (fun p => Go.intOf p.1) ↔ _
    rw [List.mem_map]
    constructor
    · rintro ⟨p, hp, rfl⟩
      obtain ⟨a, ha⟩ := hks p hp
      exact ⟨p, hp, by rw [ha]; simp [Lit.sameKey, Go.intOf]⟩
    · rintro ⟨p, hp, he⟩
      obtain ⟨a, ha⟩ := hks p hp
      rw [ha] at he
      exact ⟨p, hp, by rw [ha]; simpa [Lit.sameKey, Go.intOf] using he⟩
  · have hs := hD.size_le
    subst hD1
    simpa [intKeys, Maps.size] using hs
end

section
variable (w : World) {ops : Array Oper} {rest : List Oper} {o : Oper} {a : Act} {Q : Exit → Act → World → Prop} {vals : List Value} {m n : Nat} {f : Int → Option Value}
/-- delete(m, k). -/
theorem wpList_delV (hg : o.guard = none) (mo xo : Operand) (t e : TypeId) (hop : o.op = Op.call { callee := Callee.builtin Builtin.delete, args := #[mo, xo], argTypes := #[t, 3] }) (ht : Tryz.prog.underlying t = some (.map 3 e)) (hm : a.eval mo = .map (some m)) (h : MapV vals w m n f) (k : Int) (hx : a.eval xo = .int .i64 k)
    (hk : -9223372036854775808 ≤ k ∧ k ≤ 9223372036854775807)
    (hK : ∀ w', MapV vals w' m n (fun i => if i = k then none else f i) → Fr (fun b => b = m) w w' → wpList Tryz.prog ops Q rest (a.put o.dst (.tuple #[])) w') :
    wpList Tryz.prog ops Q (o :: rest) a w := by
  obtain ⟨D, hD, hvs, hf⟩ := h
  refine wpList_delete_own w hg mo xo t 3 hop e (Maps.int_keyed Tryz.underlying3) ht (vElem vals) m n D hm hD _ _ hx (keyV hk) (fun w' hD' ht => hK w' ⟨_, hD', fun i u hi => ?_, fun i hi z => ?_⟩ (turnedS ht))
  · by_cases hie : i = k
    · simp only [if_pos hie] at hi; cases hi
    · simp only [if_neg hie] at hi
      exact hvs i u hi
  · by_cases e : i = k
    · subst e
      rw [Maps.atKey_del_same]
      simp
    · rw [Maps.atKey_del_other (by simpa using e)]
      simp only [if_neg e]
      exact hf i hi z
end
/-- A longer list of values reads as the shorter one did. -/
theorem ix_grow {vals vs : List Value} {v : Value} (h : v ∈ vals) : ix (vals ++ vs) v = ix vals v := by
  classical
  unfold ix
  rw [List.findIdx_append, if_pos (List.findIdx_lt_length_of_exists ⟨v, h, by simp⟩)]
theorem vElem_grow {vals vs : List Value} {v : Value} {z : DataW Unit × List MemPlace} (h : vElem vals v = some z) : vElem (vals ++ vs) v = some z := by
  unfold vElem at h ⊢
  split at h
  · rename_i hv
    rw [if_pos (List.mem_append_left vs hv), ix_grow hv]
    exact h
  · cases h
theorem MapV.grow {vals : List Value} {w : World} {m n : Nat} {f : Int → Option Value} (h : MapV vals w m n f) (vs : List Value) : MapV (vals ++ vs) w m n f := by
  obtain ⟨D, ⟨es, clock, hb, F, hn, hD⟩, hv, hf⟩ := h
  have h1 := World.ownsMap_of_fit (R := vElem (vals ++ vs)) hb F (fun x _ z hz => vElem_grow hz)
  rw [← hD] at h1
  refine ⟨D, h1.mono hn, fun s v hs => List.mem_append_left vs (hv s v hs), fun k hk z => ?_⟩
  rw [hf k hk z]
  cases hfk : f k with
  | none => rfl
  | some v => simp only [ix_grow (hv k v hfk)]
theorem MapS.grow {vals : List Value} {w : World} {m n : Nat} {f : ByteArray → Option Value} (h : MapS vals w m n f) (vs : List Value) : MapS (vals ++ vs) w m n f := by
  obtain ⟨D, ⟨es, clock, hb, F, hn, hD⟩, hv, hf⟩ := h
  have h1 := World.ownsMap_of_fit (R := vElem (vals ++ vs)) hb F (fun x _ z hz => vElem_grow hz)
  rw [← hD] at h1
  refine ⟨D, h1.mono hn, fun s v hs => List.mem_append_left vs (hv s v hs), fun k z => ?_⟩
  rw [hf k z]
  cases hfk : f k with
  | none => rfl
  | some v => simp only [ix_grow (hv k v hfk)]
end Go.Proofs.YtoemahhpheobkaaGreatDoor
