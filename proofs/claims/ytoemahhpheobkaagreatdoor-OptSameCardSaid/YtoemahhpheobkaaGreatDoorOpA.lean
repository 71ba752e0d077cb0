/- A map from a text and a bool (a struct as its key) to numbers, that the calls themselves have made: looking up, storing. Condition: the map's types are those of the walk. -/
import Derived.Test.YtoemahhpheobkaaGreatDoorMv
import Derived.DeepKeys4
namespace Go.Proofs.YtoemahhpheobkaaGreatDoor
open Go.RowKit Go.Maps

theorem laidK : laidOutB Tryz.prog = true := by kernel_rfl
def kyV (c : ByteArray × Bool) : Value := .agg #[.string c.1, .bool c.2]
def kyL (c : ByteArray × Bool) : Lit := .string (keyBytes [.string c.1.data.toList, .bool c.2])
theorem kyRow : (156 : TypeId) < Tryz.prog.types.size := of_decide_eq_true (by kernel_rfl)
theorem kyAt : Tryz.prog.keyTypeAt 2 156 = true := by kernel_rfl
theorem kyK : Keyed Tryz.prog 156 := Keyed.of_law (by refine deep_law_laid laidK (m := 2) (by omega) kyRow kyAt ?_; rw [Tryz.underlying156])
theorem kyDeep : Tryz.prog.keyType 156 = true := by kernel_rfl
theorem kyCells : Tryz.prog.cellsOf 156 = 2 := by kernel_rfl
theorem kyS : Tryz.prog.cellsOf 9 = 1 := by kernel_rfl
theorem kyB : Tryz.prog.cellsOf 4 = 1 := by kernel_rfl
theorem kyForm (c : ByteArray × Bool) : (kyV c).formed Tryz.prog 156 = true := by simp [kyV, Value.formed, Tryz.underlying156, kyCells]
theorem kyOf {c : ByteArray × Bool} (hs : c.1.size ≤ 9223372036854775807) : keyOf Tryz.prog 156 (kyV c) = some (kyL c) := by
  obtain ⟨d, hd⟩ : ∃ d, Tryz.prog.types.size + 1 = d + 2 := ⟨Tryz.prog.types.size - 1, by have : 1 ≤ Tryz.prog.types.size := of_decide_eq_true (by kernel_rfl); omega⟩
  have hl : c.1.size ≤ maxLen := by unfold maxLen; omega
  unfold keyOf
  rw [Tryz.underlying156]
  simp only [kyDeep, kyForm, Bool.and_self, if_true, hd]
  simp [Program.keyLits, Tryz.underlying156, Tryz.underlying9, Tryz.underlying4, kyV, Value.cells, kyCells, kyS, kyB, hl, kyL, keyBytes]
theorem kyInj {c d : ByteArray × Bool} (hc : c.1.size ≤ 9223372036854775807) (hd : d.1.size ≤ 9223372036854775807) (h : kyL c = kyL d) : c = d := by
  have h1 := kyK.inj (kyOf hc) (h ▸ kyOf hd)
  simp only [kyV, Value.agg.injEq, Array.mk.injEq, List.cons.injEq, Value.string.injEq, Value.bool.injEq, and_true] at h1
  exact Prod.ext h1.1 h1.2

/-- Block m is a map of at most n entries that holds f c at c. -/
def MapK (vals : List Value) (w : World) (m n : Nat) (f : ByteArray × Bool → Option Value) : Prop :=
  ∃ D : DataW Unit, w.ownsMap Tryz.prog 156 (vElem vals) m n D ∧ (∀ s v, f s = some v → v ∈ vals) ∧ ∀ c : ByteArray × Bool, c.1.size ≤ 9223372036854775807 → ∀ z, D.atKey (kyL c) z = (match f c with | some v => .lit (.int .i64 (ix vals v : Int)) | none => z)

section
variable {vals : List Value} {w w' : World} {m n : Nat} {f : ByteArray × Bool → Option Value} {t e : TypeId} {z : Value}
theorem MapK.new (vals : List Value) (w : World) : MapK vals (w.alloc (.map #[] 0)) w.heap.size 0 (fun _ => none) := ⟨.map [], World.ownsMap_made w _ _ _, fun _ _ h => absurd h (by simp), fun _ _ _ => rfl⟩
theorem MapK.lt (h : MapK vals w m n f) : m < w.heap.size := by obtain ⟨D, hD, -⟩ := h; exact hD.lt
theorem MapK.fr {S : Nat → Prop} (h : MapK vals w m n f) (hf : Fr S w w') (hS : ¬ S m) : MapK vals w' m n f := by
  obtain ⟨D, ⟨es, clock, hb, r⟩, hk⟩ := h
  exact ⟨D, ⟨es, clock, hf.heap hb hS, r⟩, hk⟩
theorem MapK.low (h : MapK vals w m n f) (hf : Below w.heap.size w w') : MapK vals w' m n f := by
  have hl := h.lt
  obtain ⟨D, ⟨es, clock, hb, r⟩, hk⟩ := h
  exact ⟨D, ⟨es, clock, (hf.block m hl).trans hb, r⟩, hk⟩
theorem MapK.look (h : MapK vals w m n f) (ht : Tryz.prog.underlying t = some (.map 156 e)) (hz : (zeroValue e).run Tryz.prog w = .ok z w) (hzv : z ∈ vals) {c : ByteArray × Bool} (hc : c.1.size ≤ 9223372036854775807) :
    (Instr.lookup t (.map (some m)) (kyV c) false).run Tryz.prog w = .ok ((f c).getD z) w := by
  obtain ⟨D, hD, hv, hf⟩ := h
  obtain ⟨v, ps, hrun, hR⟩ := hD.lookup kyK ht hz (vElem_some hzv) (kyOf hc)
  rw [hrun]
  rw [hf c hc] at hR
  cases hfs : f c with
  | none => rw [hfs] at hR; rw [vElem_inv hzv hR]; rfl
  | some u => rw [hfs] at hR; rw [vElem_inv (hv c u hfs) hR]; rfl
theorem MapK.look_ok (h : MapK vals w m n f) (ht : Tryz.prog.underlying t = some (.map 156 e)) (hz : (zeroValue e).run Tryz.prog w = .ok z w) (hzv : z ∈ vals) {c : ByteArray × Bool} (hc : c.1.size ≤ 9223372036854775807) :
    (Instr.lookup t (.map (some m)) (kyV c) true).run Tryz.prog w = .ok (.tuple #[(f c).getD z, .bool (f c).isSome]) w := by
  obtain ⟨D, hD, hv, hf⟩ := h
  obtain ⟨v, ps, hrun, hR⟩ := hD.look_ok kyK ht hz (vElem_some hzv) (kyOf hc)
  rw [hrun, hasS (hf c hc)]
  rw [hf c hc] at hR
  cases hfs : f c with
  | none => rw [hfs] at hR; rw [vElem_inv hzv hR]; rfl
  | some u => rw [hfs] at hR; rw [vElem_inv (hv c u hfs) hR]; rfl
/-- Storing: the operation's run, and what it leaves. -/
theorem MapK.store (h : MapK vals w m n f) (ht : Tryz.prog.underlying t = some (.map 156 e)) (hn : n ≤ 1000000) (c : ByteArray × Bool) (v : Value) (hvv : v ∈ vals) (hc : c.1.size ≤ 9223372036854775807) :
    ∃ w', (Instr.mapUpdate t (.map (some m)) (kyV c) v).run Tryz.prog w = .ok () w' ∧ MapK vals w' m (n + 1) (fun i => if i = c then some v else f i) ∧ Fr (fun b => b = m) w w' := by
  obtain ⟨D, hD, hvs, hf⟩ := h
  obtain ⟨w', hrun, r1, r2⟩ := hD.store kyK ht (by unfold maxLen; omega) (kyOf hc) (vElem_some hvv)
  refine ⟨w', hrun, ⟨_, r1, fun i u hi => ?_, fun i hi z => ?_⟩, turnedS r2⟩
  · by_cases hie : i = c
    · simp only [if_pos hie, Option.some.injEq] at hi
      subst hi; exact hvv
    · simp only [if_neg hie] at hi
      exact hvs i u hi
  · by_cases e : i = c
    · subst e
      rw [Maps.atKey_put_same hD.isMap (show WideAt.IsKeyLit (kyL i) from trivial)]
      simp
    · rw [Maps.atKey_put_other (fun k => e (kyInj hi hc k))]
      simp only [if_neg e]
      exact hf i hi z
theorem MapK.grow (h : MapK vals w m n f) (vs : List Value) : MapK (vals ++ vs) w m n f := by
  obtain ⟨D, ⟨es, clock, hb, F, hn, hD⟩, hv, hf⟩ := h
  have h1 := World.ownsMap_of_fit (R := vElem (vals ++ vs)) hb F (fun x _ z hz => vElem_grow hz)
  rw [← hD] at h1
  refine ⟨D, h1.mono hn, fun s v hs => List.mem_append_left vs (hv s v hs), fun k hk z => ?_⟩
  rw [hf k hk z]
  cases hfk : f k with
  | none => rfl
  | some v => simp only [ix_grow (hv k v hfk)]
end
/-- A map of keys' numbers. -/
def fmK (F : ByteArray × Bool → Option Nat) (c : ByteArray × Bool) : Option Value := (F c).map fun k => .int .i64 (k : Int)
def MapQ (w : World) (m n : Nat) (F : ByteArray × Bool → Option Nat) : Prop := ∃ vals, Value.int .i64 0 ∈ vals ∧ MapK vals w m n (fmK F)
section
variable {w w' : World} {m n : Nat} {F : ByteArray × Bool → Option Nat}
theorem zero_intq (w : World) : (zeroValue 3).run Tryz.prog w = .ok (.int .i64 0) w := by kernel_rfl
theorem MapQ.new (w : World) : MapQ (w.alloc (.map #[] 0)) w.heap.size 0 (fun _ => none) := ⟨[.int .i64 0], by simp, MapK.new _ w⟩
theorem MapQ.mono (h : MapQ w m n F) {n' : Nat} (hn : n ≤ n') : MapQ w m n' F := by
  obtain ⟨vals, h0, D, hD, r⟩ := h
  exact ⟨vals, h0, D, hD.mono hn, r⟩
theorem MapQ.lt (h : MapQ w m n F) : m < w.heap.size := by obtain ⟨vals, h0, h1⟩ := h; exact h1.lt
theorem MapQ.low (h : MapQ w m n F) (hf : Below w.heap.size w w') : MapQ w' m n F := by obtain ⟨vals, h0, h1⟩ := h; exact ⟨vals, h0, h1.low hf⟩
theorem MapQ.look_ok (h : MapQ w m n F) {c : ByteArray × Bool} (hc : c.1.size ≤ 9223372036854775807) : (Instr.lookup 109 (.map (some m)) (.agg #[.string c.1, .bool c.2]) true).run Tryz.prog w = .ok (.tuple #[(fmK F c).getD (.int .i64 0), .bool (fmK F c).isSome]) w := by
  obtain ⟨vals, h0, h1⟩ := h
  exact h1.look_ok (e := 3) Tryz.underlying109 (zero_intq w) h0 hc
theorem MapQ.look (h : MapQ w m n F) {c : ByteArray × Bool} (hc : c.1.size ≤ 9223372036854775807) : (Instr.lookup 109 (.map (some m)) (.agg #[.string c.1, .bool c.2]) false).run Tryz.prog w = .ok ((fmK F c).getD (.int .i64 0)) w := by
  obtain ⟨vals, h0, h1⟩ := h
  exact h1.look (e := 3) Tryz.underlying109 (zero_intq w) h0 hc
theorem MapQ.store (h : MapQ w m n F) (hn : n ≤ 1000000) (c : ByteArray × Bool) (k : Nat) (hc : c.1.size ≤ 9223372036854775807) :
    ∃ w', (Instr.mapUpdate 109 (.map (some m)) (.agg #[.string c.1, .bool c.2]) (.int .i64 (k : Int))).run Tryz.prog w = .ok () w' ∧ MapQ w' m (n + 1) (fun i => if i = c then some k else F i) ∧ Fr (fun b => b = m) w w' := by
  obtain ⟨vals, h0, h1⟩ := h
  obtain ⟨w', hr, h2, h3⟩ := (h1.grow [.int .i64 (k : Int)]).store (e := 3) Tryz.underlying109 hn c (.int .i64 (k : Int)) (by simp) hc
  refine ⟨w', hr, ⟨vals ++ [.int .i64 (k : Int)], List.mem_append_left _ h0, ?_⟩, h3⟩
  have e : fmK (fun i => if i = c then some k else F i) = fun i => if i = c then some (.int .i64 (k : Int)) else fmK F i := by
    funext i
    unfold fmK
    by_cases h : i = c
    · simp [h]
    · simp [h]
  rw [e]
  exact h2
end
end Go.Proofs.YtoemahhpheobkaaGreatDoor
