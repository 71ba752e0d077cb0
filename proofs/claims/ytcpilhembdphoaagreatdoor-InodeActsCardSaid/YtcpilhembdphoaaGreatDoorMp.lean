/- A map from ints to pointers that the calls themselves have made: what it holds, key by key; looking up, storing, deleting. Condition: keys fit an int. -/
import Derived.Test.YtcpilhembdphoaaGreatDoorB
import Derived.Test.YtcpilhembdphoaaGreatDoorProg
import Derived.Maps.OwnSet
import Derived.Maps.OwnOps
import Derived.WalkArith
namespace Go.Proofs.YtcpilhembdphoaaGreatDoor
open Go.RowKit

/-- How a pointer reads: by its block. -/
def ptrElem (v : Value) : Option (DataW Unit × List MemPlace) :=
  match v with
  | .pointer none => some (.nil, [])
  | .pointer (some ⟨b, 0, none⟩) => some (.lit (.int .i64 (b : Int)), [])
  | _ => none
def ptrV (o : Option Nat) : Value := .pointer (o.map fun b => ⟨b, 0, none⟩)
theorem ptrElem_some (b : Nat) : ptrElem (.pointer (some ⟨b, 0, none⟩)) = some (.lit (.int .i64 (b : Int)), []) := rfl
theorem ptrElem_inv {v : Value} {b : Nat} {ps : List MemPlace} (h : ptrElem v = some (.lit (.int .i64 (b : Int)), ps)) : v = .pointer (some ⟨b, 0, none⟩) := by
  unfold ptrElem at h
  split at h
  · simp at h
  · simp only [Option.some.injEq, Prod.mk.injEq, DataW.lit.injEq, Lit.int.injEq, true_and] at h
    rw [Int.ofNat.inj h.1]
  · cases h
theorem ptrElem_inv_nil {v : Value} {ps : List MemPlace} (h : ptrElem v = some (.nil, ps)) : v = .pointer none := by
  unfold ptrElem at h
  split at h
  · rfl
  · simp at h
  · cases h
theorem zero_ptr (w : World) : (zeroValue 72).run Tryz.prog w = .ok (.pointer none) w := by kernel_rfl

/-- Block m is a map that holds at k a pointer to block f k. -/
def MapIs (w : World) (m n : Nat) (f : Int → Option Nat) : Prop :=
  ∃ D : DataW Unit, w.ownsMap Tryz.prog 3 ptrElem m n D ∧ ∀ k, -9223372036854775808 ≤ k ∧ k ≤ 9223372036854775807 → ∀ z, D.atKey (.int .i64 k) z = (match f k with | some b => .lit (.int .i64 (b : Int)) | none => z)

section
variable {w w' : World} {m n : Nat} {f : Int → Option Nat}
theorem MapIs.new (w : World) : MapIs (w.alloc (.map #[] 0)) w.heap.size 0 (fun _ => none) := ⟨.map [], World.ownsMap_made w _ _ _, fun _ _ _ => rfl⟩
theorem MapIs.of_heap (h : w.heap[m]? = some (.map #[] 0)) : MapIs w m 0 (fun _ => none) := by
  refine ⟨.map [], ⟨#[], 0, h, ⟨by simp, MapKept.stamped_empty 0, by simp⟩, Nat.le_refl _, rfl⟩, fun _ _ _ => rfl⟩
theorem MapIs.lt (h : MapIs w m n f) : m < w.heap.size := by obtain ⟨D, hD, -⟩ := h; exact hD.lt
theorem MapIs.fr {S : Nat → Prop} (h : MapIs w m n f) (hf : Fr S w w') (hS : ¬ S m) : MapIs w' m n f := by
  obtain ⟨D, ⟨es, clock, hb, r⟩, hk⟩ := h
  exact ⟨D, ⟨es, clock, hf.heap hb hS, r⟩, hk⟩
theorem MapIs.ob {B : Nat} (h : MapIs w m n f) (hf : Below B w w') (hB : w.heap.size ≤ B) : MapIs w' m n f :=
  h.fr (S := fun b => B ≤ b) (Fr.of_below hf (fun _ _ x => x)) (by have := h.lt; omega)
theorem MapIs.ne_blk {b : Nat} {cs : List Value} {T : TypeId} (h : MapIs w m n f) (hb : Blk w b cs T) : m ≠ b := by
  rintro rfl
  obtain ⟨D, ⟨es, clock, hh, -⟩, -⟩ := h
  unfold Blk at hb
  rw [hh] at hb
  cases hb
theorem has_eq_of {D : DataW Unit} {k : Lit} {o : Option Nat} (h : ∀ z, D.atKey k z = (match o with | some b => .lit (.int .i64 (b : Int)) | none => z)) : Maps.has D k = o.isSome := by
  cases o with
  | none => exact Maps.has_false_of_atKey h
  | some b => exact Maps.has_true_of_atKey h
theorem wf_of {k : Int} (hk : -9223372036854775808 ≤ k ∧ k ≤ 9223372036854775807) : (Lit.int .i64 k).wf = true := WalkArith.wf_i64 hk
theorem keyOf_of {k : Int} (hk : -9223372036854775808 ≤ k ∧ k ≤ 9223372036854775807) : keyOf Tryz.prog 3 (.int .i64 k) = some (.int .i64 k) := Maps.keyOf_int_mk Tryz.underlying3 (wf_of hk)
theorem MapIs.look (h : MapIs w m n f) {k : Int} (hk : -9223372036854775808 ≤ k ∧ k ≤ 9223372036854775807) :
    (Instr.lookup 66 (.map (some m)) (.int .i64 k) false).run Tryz.prog w = .ok (ptrV (f k)) w := by
  obtain ⟨D, hD, hf⟩ := h
  obtain ⟨v, ps, hrun, hv⟩ := hD.lookup (Maps.int_keyed Tryz.underlying3) Tryz.underlying66 (zero_ptr w) (show ptrElem (.pointer none) = some (.nil, []) from rfl) (keyOf_of hk)
  rw [hrun]
  rw [hf k hk] at hv
  cases hfk : f k with
  | none => rw [hfk] at hv; rw [ptrElem_inv_nil hv]; rfl
  | some b => rw [hfk] at hv; rw [ptrElem_inv hv]; rfl
theorem MapIs.look_ok (h : MapIs w m n f) {k : Int} (hk : -9223372036854775808 ≤ k ∧ k ≤ 9223372036854775807) :
    (Instr.lookup 66 (.map (some m)) (.int .i64 k) true).run Tryz.prog w = .ok (.tuple #[ptrV (f k), .bool (f k).isSome]) w := by
  obtain ⟨D, hD, hf⟩ := h
  obtain ⟨v, ps, hrun, hv⟩ := hD.look_ok (Maps.int_keyed Tryz.underlying3) Tryz.underlying66 (zero_ptr w) (show ptrElem (.pointer none) = some (.nil, []) from rfl) (keyOf_of hk)
  rw [hrun, has_eq_of (hf k hk)]
  rw [hf k hk] at hv
  cases hfk : f k with
  | none => rw [hfk] at hv; rw [ptrElem_inv_nil hv]; rfl
  | some b => rw [hfk] at hv; rw [ptrElem_inv hv]; rfl
theorem turned_fr (h : w.mapTurned w' m) : Fr (fun b => b = m) w w' := by
  have hg := h.grown
  exact (Fr.refl _ w).grown hg (fun k hk => .inl (Option.some.inj hk).symm)
end

section
variable (w : World) {ops : Array Oper} {rest : List Oper} {o : Oper} {a : Act} {Q : Exit → Act → World → Prop} {m n : Nat} {f : Int → Option Nat}
/-- m[k] = a pointer. -/
theorem wpList_map_store (hg : o.guard = none) (mo xo vo : Operand) (hop : o.op = Op.mapUpdate 66 mo xo vo) (hm : a.eval mo = .map (some m)) (h : MapIs w m n f) (hn : n ≤ 1000000) (k : Int) (b : Nat) (hx : a.eval xo = .int .i64 k) (hv : a.eval vo = .pointer (some ⟨b, 0, none⟩))
    (hk : -9223372036854775808 ≤ k ∧ k ≤ 9223372036854775807)
    (hK : ∀ w', MapIs w' m (n + 1) (fun i => if i = k then some b else f i) → Fr (fun b => b = m) w w' → wpList Tryz.prog ops Q rest (a.put o.dst undef) w') :
    wpList Tryz.prog ops Q (o :: rest) a w := by
  obtain ⟨D, hD, hf⟩ := h
  refine wpList_mapUpdate_in w hg mo xo vo _ hop 3 72 (Maps.int_keyed Tryz.underlying3) Tryz.underlying66 ptrElem m n D hm hD (by unfold maxLen; omega) _ _ _ hx hv (keyOf_of hk) _ [] (ptrElem_some b) (fun w' hD' ht => hK w' ⟨_, hD', fun i hi z => ?_⟩ (turned_fr ht))
  by_cases e : i = k
  · subst e
    rw [Maps.atKey_put_same hD.isMap (show WideAt.IsKeyLit (.int .i64 i) from trivial)]
    simp
  · rw [Maps.atKey_put_other (by simpa using e)]
    simp only [if_neg e]
    exact hf i hi z
/-- delete(m, k). -/
theorem wpList_map_del (hg : o.guard = none) (mo xo : Operand) (hop : o.op = Op.call { callee := Callee.builtin Builtin.delete, args := #[mo, xo], argTypes := #[66, 3] }) (hm : a.eval mo = .map (some m)) (h : MapIs w m n f) (k : Int) (hx : a.eval xo = .int .i64 k)
    (hk : -9223372036854775808 ≤ k ∧ k ≤ 9223372036854775807)
    (hK : ∀ w', MapIs w' m n (fun i => if i = k then none else f i) → Fr (fun b => b = m) w w' → wpList Tryz.prog ops Q rest (a.put o.dst (.tuple #[])) w') :
    wpList Tryz.prog ops Q (o :: rest) a w := by
  obtain ⟨D, hD, hf⟩ := h
  refine wpList_delete_own w hg mo xo _ 3 hop 72 (Maps.int_keyed Tryz.underlying3) Tryz.underlying66 ptrElem m n D hm hD _ _ hx (keyOf_of hk) (fun w' hD' ht => hK w' ⟨_, hD', fun i hi z => ?_⟩ (turned_fr ht))
  by_cases e : i = k
  · subst e
    rw [Maps.atKey_del_same]
    simp
  · rw [Maps.atKey_del_other (by simpa using e)]
    simp only [if_neg e]
    exact hf i hi z
end
end Go.Proofs.YtcpilhembdphoaaGreatDoor
