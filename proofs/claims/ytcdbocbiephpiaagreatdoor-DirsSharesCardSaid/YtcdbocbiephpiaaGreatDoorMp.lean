/- The pieces of a text in blocks of 16 bytes, and that they make it again. No condition. · A map from ints to pointers that the calls themselves have made: what it holds, key by key; looking up, storing, deleting. Condition: keys fit an int. -/
import Derived.Lib.Strings
import Derived.WideShapes
import Derived.Test.YtcdbocbiephpiaaGreatDoorB
import Derived.Test.YtcdbocbiephpiaaGreatDoorProg
import Derived.Maps.OwnSet
import Derived.Maps.OwnOps
import Derived.WalkArith
namespace Go.Proofs.YtcdbocbiephpiaaGreatDoor

/-- Piece j of a text: 16 bytes, the last ones zero. -/
def pcL (d : List UInt8) (j : Nat) : List UInt8 := (d.drop (16 * j)).take 16 ++ List.replicate (16 - ((d.drop (16 * j)).take 16).length) 0
def pcB (d : ByteArray) (j : Nat) : ByteArray := ⟨(pcL d.data.toList j).toArray⟩
theorem pcL_len (d : List UInt8) (j : Nat) : (pcL d j).length = 16 := by
  unfold pcL; rw [List.length_append, List.length_replicate, List.length_take]; omega
theorem pcB_list (d : ByteArray) (j : Nat) : (pcB d j).data.toList = pcL d.data.toList j := by simp [pcB]
theorem pcB_size (d : ByteArray) (j : Nat) : (pcB d j).size = 16 := by rw [Lib.size_eq, pcB_list, pcL_len]
/-- The first m pieces, one behind the other. -/
def pcs (d : List UInt8) : Nat → List UInt8
  | 0 => []
  | m + 1 => pcs d m ++ pcL d m
theorem pcs_len (d : List UInt8) : ∀ m, (pcs d m).length = 16 * m
  | 0 => rfl
  | m + 1 => by rw [pcs, List.length_append, pcs_len d m, pcL_len]; omega
theorem pcs_full (d : List UInt8) : ∀ m, 16 * m ≤ d.length → pcs d m = d.take (16 * m)
  | 0, _ => by simp [pcs]
  | m + 1, h => by
    have hl : ((d.drop (16 * m)).take 16).length = 16 := by rw [List.length_take, List.length_drop]; omega
    rw [pcs, pcs_full d m (by omega), pcL, hl, Nat.sub_self, List.replicate_zero, List.append_nil, ← List.take_add]
    congr 1
/-- How many blocks a text needs. -/
def needN (n : Nat) : Nat := if n < 1 then 0 else (n - 1) / 16 + 1
theorem needN_le (n : Nat) (h : n ≤ 2000) : needN n ≤ 125 := by unfold needN; split <;> omega
theorem needN_lo (n : Nat) {j : Nat} (h : j < needN n) : 16 * j < n := by
  unfold needN at h
  split at h <;> omega
theorem needN_hi (n : Nat) : n ≤ 16 * needN n := by unfold needN; split <;> omega
theorem pcs_need (d : List UInt8) : (pcs d (needN d.length)).take d.length = d := by
  by_cases h : d.length < 1
  · have : d = [] := List.eq_nil_of_length_eq_zero (by omega)
    subst this; simp
  · obtain ⟨m, hm⟩ : ∃ m, needN d.length = m + 1 := ⟨(d.length - 1) / 16, by unfold needN; rw [if_neg h]⟩
    have h1 := needN_hi d.length
    have h2 : 16 * m < d.length := needN_lo d.length (by omega)
    rw [hm, pcs, pcs_full d m (by omega), pcL]
    have h3 : (d.drop (16 * m)).take 16 = d.drop (16 * m) := List.take_of_length_le (by rw [List.length_drop]; omega)
    rw [h3, ← List.append_assoc, List.take_append_drop, List.take_left]
def zerosB (n : Nat) : ByteArray := ⟨(List.replicate n (0 : UInt8)).toArray⟩

/-- What waits behind the first j writes. -/
def wsN (l : List Nat) (d : ByteArray) (j : Nat) : List (Nat × ByteArray) := (List.range j).map fun i => (l.getD i 0, pcB d i)
theorem wsN_len (l : List Nat) (d : ByteArray) (j : Nat) : (wsN l d j).length = j := by simp [wsN]
theorem wsN_succ (l : List Nat) (d : ByteArray) (j : Nat) : wsN l d (j + 1) = wsN l d j ++ [(l.getD j 0, pcB d j)] := by simp [wsN, List.range_succ]
/-- The blocks behind the first j of these writes. -/
def lsN (ls : List ByteArray) (l : List Nat) (d : ByteArray) : Nat → List ByteArray
  | 0 => ls
  | j + 1 => (lsN ls l d j).set (l.getD j 0) (pcB d j)
theorem lsN_len (ls : List ByteArray) (l : List Nat) (d : ByteArray) : ∀ j, (lsN ls l d j).length = ls.length
  | 0 => rfl
  | j + 1 => by rw [lsN, List.length_set, lsN_len ls l d j]
theorem lsN_other (ls : List ByteArray) (l : List Nat) (d : ByteArray) (b : Nat) (x : ByteArray) : ∀ j, (∀ i, i < j → l.getD i 0 ≠ b) → (lsN ls l d j).getD b x = ls.getD b x
  | 0, _ => rfl
  | j + 1, h => by
    rw [lsN, List.getD_eq_getElem?_getD, List.getElem?_set_ne (h j (by omega)), ← List.getD_eq_getElem?_getD]
    exact lsN_other ls l d b x j (fun i hi => h i (by omega))
theorem lsN_at (ls : List ByteArray) (l : List Nat) (d : ByteArray) (x : ByteArray) (hb : ∀ b ∈ l, b < ls.length) (hn : l.Nodup) : ∀ j, j ≤ l.length → ∀ i, i < j → (lsN ls l d j).getD (l.getD i 0) x = pcB d i
  | 0, _, i, hi => by omega
  | j + 1, hj, i, hi => by
    have hgi : l.getD i 0 = l[i]'(by omega) := by rw [List.getD_eq_getElem?_getD, List.getElem?_eq_getElem (by omega)]; rfl
    have hgj : l.getD j 0 = l[j]'(by omega) := by rw [List.getD_eq_getElem?_getD, List.getElem?_eq_getElem (by omega)]; rfl
    rw [lsN]
    by_cases e : i = j
    · subst e
      have : l.getD i 0 < (lsN ls l d i).length := by rw [lsN_len, hgi]; exact hb _ (List.getElem_mem _)
      rw [List.getD_eq_getElem?_getD, List.getElem?_set_self this]
      rfl
    · have hne : l.getD j 0 ≠ l.getD i 0 := by
        rw [hgi, hgj]
        intro h
        exact (List.pairwise_iff_getElem.1 hn) i j (by omega) (by omega) (by omega) h.symm
      rw [List.getD_eq_getElem?_getD, List.getElem?_set_ne hne, ← List.getD_eq_getElem?_getD]
      exact lsN_at ls l d x hb hn j (by omega) i (by omega)
end Go.Proofs.YtcdbocbiephpiaaGreatDoor

namespace Go.Proofs.YtcdbocbiephpiaaGreatDoor
open Go.RowKit

/-- How a pointer reads: by its block. -/
def ptrElem (v : Value) : Option (DataW Unit × List MemPlace) :=
  match v with
  | .pointer none => some (.nil, [])
  | .pointer (some ⟨b, 0, none⟩) => some (.lit (.int .i64 (b : Int)), [])
  | _ => none
def ptrV (o : Option Nat) : Value := .pointer (o.map fun b => ⟨b, 0, none⟩)
theorem ptrElem_some (b : Nat) : ptrElem (.pointer (some ⟨b, 0, none⟩)) = some (.lit (.int .i64 (b : Int)), []) := rfl
theorem ptrElem_inv {v : Value} {b : Nat} {ps : List MemPlace} (h : ptrElem v = some (.lit (.int .i64 (b : Int)), ps)) : v = .pointer (some ⟨b, 0, none⟩) := by
  unfold ptrElem at h
  split at h
  · simp at h
  · simp only [Option.some.injEq, Prod.mk.injEq, DataW.lit.injEq, Lit.int.injEq, true_and] at h
    rw [Int.ofNat.inj h.1]
  · cases h
theorem ptrElem_inv_nil {v : Value} {ps : List MemPlace} (h : ptrElem v = some (.nil, ps)) : v = .pointer none := by
  unfold ptrElem at h
  split at h
  · rfl
  · simp at h
  · cases h
theorem zero_ptr (w : World) : (zeroValue 105).run Tryz.prog w = .ok (.pointer none) w := by kernel_rfl

/-- Block m is a map that holds at k a pointer to block f k. -/
def MapIs (w : World) (m n : Nat) (f : Int → Option Nat) : Prop :=
  ∃ D : DataW Unit, w.ownsMap Tryz.prog 3 ptrElem m n D ∧ ∀ k, -9223372036854775808 ≤ k ∧ k ≤ 9223372036854775807 → ∀ z, D.atKey (.int .i64 k) z = (match f k with | some b => .lit (.int .i64 (b : Int)) | none => z)

section
variable {w w' : World} {m n : Nat} {f : Int → Option Nat}
theorem MapIs.new (w : World) : MapIs (w.alloc (.map #[] 0)) w.heap.size 0 (fun _ => none) := ⟨.map [], World.ownsMap_made w _ _ _, fun _ _ _ => rfl⟩
theorem MapIs.of_heap (h : w.heap[m]? = some (.map #[] 0)) : MapIs w m 0 (fun _ => none) := by
  refine ⟨.map [], ⟨#[], 0, h, ⟨by simp, MapKept.stamped_empty 0, by simp⟩, Nat.le_refl _, rfl⟩, fun _ _ _ => rfl⟩
theorem MapIs.lt (h : MapIs w m n f) : m < w.heap.size := by obtain ⟨D, hD, -⟩ := h; exact hD.lt
theorem MapIs.fr {S : Nat → Prop} (h : MapIs w m n f) (hf : Fr S w w') (hS : ¬ S m) : MapIs w' m n f := by
  obtain ⟨D, ⟨es, clock, hb, r⟩, hk⟩ := h
  exact ⟨D, ⟨es, clock, hf.heap hb hS, r⟩, hk⟩
theorem MapIs.ob {B : Nat} (h : MapIs w m n f) (hf : Below B w w') (hB : w.heap.size ≤ B) : MapIs w' m n f :=
  h.fr (S := fun b => B ≤ b) (Fr.of_below hf (fun _ _ x => x)) (by have := h.lt; omega)
theorem MapIs.ne_blk {b : Nat} {cs : List Value} {T : TypeId} (h : MapIs w m n f) (hb : Blk w b cs T) : m ≠ b := by
  rintro rfl
  obtain ⟨D, ⟨es, clock, hh, -⟩, -⟩ := h
  unfold Blk at hb
  rw [hh] at hb
  cases hb
theorem has_eq_of {D : DataW Unit} {k : Lit} {o : Option Nat} (h : ∀ z, D.atKey k z = (match o with | some b => .lit (.int .i64 (b : Int)) | none => z)) : Maps.has D k = o.isSome := by
  cases o with
  | none => exact Maps.has_false_of_atKey h
  | some b => exact Maps.has_true_of_atKey h
theorem wf_of {k : Int} (hk : -9223372036854775808 ≤ k ∧ k ≤ 9223372036854775807) : (Lit.int .i64 k).wf = true := WalkArith.wf_i64 hk
theorem keyOf_of {k : Int} (hk : -9223372036854775808 ≤ k ∧ k ≤ 9223372036854775807) : keyOf Tryz.prog 3 (.int .i64 k) = some (.int .i64 k) := Maps.keyOf_int_mk Tryz.underlying3 (wf_of hk)
theorem MapIs.look (h : MapIs w m n f) {k : Int} (hk : -9223372036854775808 ≤ k ∧ k ≤ 9223372036854775807) :
    (Instr.lookup 104 (.map (some m)) (.int .i64 k) false).run Tryz.prog w = .ok (ptrV (f k)) w := by
  obtain ⟨D, hD, hf⟩ := h
  obtain ⟨v, ps, hrun, hv⟩ := hD.lookup (Maps.int_keyed Tryz.underlying3) Tryz.underlying104 (zero_ptr w) (show ptrElem (.pointer none) = some (.nil, []) from rfl) (keyOf_of hk)
  rw [hrun]
  rw [hf k hk] at hv
  cases hfk : f k with
  | none => rw [hfk] at hv; rw [ptrElem_inv_nil hv]; rfl
  | some b => rw [hfk] at hv; rw [ptrElem_inv hv]; rfl
theorem MapIs.look_ok (h : MapIs w m n f) {k : Int} (hk : -9223372036854775808 ≤ k ∧ k ≤ 9223372036854775807) :
    (Instr.lookup 104 (.map (some m)) (.int .i64 k) true).run Tryz.prog w = .ok (.tuple #[ptrV (f k), .bool (f k).isSome]) w := by
  obtain ⟨D, hD, hf⟩ := h
  obtain ⟨v, ps, hrun, hv⟩ := hD.look_ok (Maps.int_keyed Tryz.underlying3) Tryz.underlying104 (zero_ptr w) (show ptrElem (.pointer none) = some (.nil, []) from rfl) (keyOf_of hk)
  rw [hrun, has_eq_of (hf k hk)]
  rw [hf k hk] at hv
  cases hfk : f k with
  | none => rw [hfk] at hv; rw [ptrElem_inv_nil hv]; rfl
  | some b => rw [hfk] at hv; rw [ptrElem_inv hv]; rfl
theorem turned_fr (h : w.mapTurned w' m) : Fr (fun b => b = m) w w' := by
  have hg := h.grown
  exact (Fr.refl _ w).grown hg (fun k hk => .inl (Option.some.inj hk).symm)
end

section
variable (w : World) {ops : Array Oper} {rest : List Oper} {o : Oper} {a : Act} {Q : Exit → Act → World → Prop} {m n : Nat} {f : Int → Option Nat}
/-- m[k] = a pointer. -/
theorem wpList_map_store (hg : o.guard = none) (mo xo vo : Operand) (hop : o.op = Op.mapUpdate 104 mo xo vo) (hm : a.eval mo = .map (some m)) (h : MapIs w m n f) (hn : n ≤ 1000000) (k : Int) (b : Nat) (hx : a.eval xo = .int .i64 k) (hv : a.eval vo = .pointer (some ⟨b, 0, none⟩))
    (hk : -9223372036854775808 ≤ k ∧ k ≤ 9223372036854775807)
    (hK : ∀ w', MapIs w' m (n + 1) (fun i => if i = k then some b else f i) → Fr (fun b => b = m) w w' → wpList Tryz.prog ops Q rest (a.put o.dst undef) w') :
    wpList Tryz.prog ops Q (o :: rest) a w := by
  obtain ⟨D, hD, hf⟩ := h
  refine wpList_mapUpdate_in w hg mo xo vo _ hop 3 105 (Maps.int_keyed Tryz.underlying3) Tryz.underlying104 ptrElem m n D hm hD (by unfold maxLen; omega) _ _ _ hx hv (keyOf_of hk) _ [] (ptrElem_some b) (fun w' hD' ht => hK w' ⟨_, hD', fun i hi z => ?_⟩ (turned_fr ht))
  by_cases e : i = k
  · subst e
    rw [Maps.atKey_put_same hD.isMap (show WideAt.IsKeyLit (.int .i64 i) from trivial)]
    simp
  · rw [Maps.atKey_put_other (by simpa using e)]
    simp only [if_neg e]
    exact hf i hi z
/-- delete(m, k). -/
theorem wpList_map_del (hg : o.guard = none) (mo xo : Operand) (hop : o.op = Op.call { callee := Callee.builtin Builtin.delete, args := #[mo, xo], argTypes := #[104, 3] }) (hm : a.eval mo = .map (some m)) (h : MapIs w m n f) (k : Int) (hx : a.eval xo = .int .i64 k)
    (hk : -9223372036854775808 ≤ k ∧ k ≤ 9223372036854775807)
    (hK : ∀ w', MapIs w' m n (fun i => if i = k then none else f i) → Fr (fun b => b = m) w w' → wpList Tryz.prog ops Q rest (a.put o.dst (.tuple #[])) w') :
    wpList Tryz.prog ops Q (o :: rest) a w := by
  obtain ⟨D, hD, hf⟩ := h
  refine wpList_delete_own w hg mo xo _ 3 hop 105 (Maps.int_keyed Tryz.underlying3) Tryz.underlying104 ptrElem m n D hm hD _ _ hx (keyOf_of hk) (fun w' hD' ht => hK w' ⟨_, hD', fun i hi z => ?_⟩ (turned_fr ht))
  by_cases e : i = k
  · subst e
    rw [Maps.atKey_del_same]
    simp
  · rw [Maps.atKey_del_other (by simpa using e)]
    simp only [if_neg e]
    exact hf i hi z
end
end Go.Proofs.YtcdbocbiephpiaaGreatDoor
