/- slices.Clone of ints: the contract for a slice that is not empty. · The inode table's first contracts: Len of a disk, New. Condition: the disk is one that New gave. · The pieces of a text in blocks of 16 bytes, and that they make it again. No condition. · A map from ints to pointers that the calls themselves have made: what it holds, key by key; looking up, storing, deleting. Condition: keys fit an int. · The inode table writes a text into blocks of the disk. Condition: the disk waits for nothing, the blocks are some of it. -/
import Derived.Test.YtoemahhpheobkaaGreatDoorSpC
import Derived.Test.YtoemahhpheobkaaGreatDoorDkN
import Derived.Maps.OwnSet
import Derived.Lib.Strings
import Derived.WideShapes
import Derived.Test.YtoemahhpheobkaaGreatDoorB
import Derived.Test.YtoemahhpheobkaaGreatDoorProg
import Derived.Maps.OwnOps
import Derived.WalkArith
import Derived.Lib.Split
import Derived.WalkLawsBesides
namespace Go.Proofs.YtoemahhpheobkaaGreatDoor
open Go.RowKit

set_option maxRecDepth 100000 in
theorem clone_ints (v : Value) (us : List Int) (w : World) (h : Sl w v (icells us) us.length 1) (h0 : 0 < us.length) (h5 : us.length ≤ 512) :
    Calls Tryz.prog 46 #[v] w fun e w' => ∃ a cap, e = .returned (.slice a us.length cap) ∧ Ow (fun g => w.heap.size ≤ g) w' 3 1 (.slice a us.length cap) us.length (icells us) ∧ Below w.heap.size w w' := by
  obtain ⟨i0, hi, hz0, hz1, hz2⟩ := info_parts infoI
  have h1 : ∀ u ∈ icells us, u.oneCell' = true := by
    intro u hu; obtain ⟨x, _, rfl⟩ := List.mem_map.1 hu; rfl
  obtain ⟨a, cap, rfl, hl, hn, hm, h3⟩ := id h
  obtain ⟨b, off, rfl, hbl, hcells⟩ := h3.resolve_left (by omega)
  have hs := Src.sl (P := Tryz.prog) (tx := 44) Tryz.underlying44 (h.ob ((Below.refl w.heap.size w).alloc (Nat.le_refl _) (.cells #[] 3)) (Nat.le_refl _)) h1
  have hown : Ow (fun g => w.heap.size ≤ g) (w.alloc (.cells #[] 3)) 3 1 (.slice (some ⟨w.heap.size, 0, none⟩) 0 0) 0 [] :=
    ⟨by simp, .inr ⟨w.heap.size, 0, 0, #[], rfl, Nat.le_refl _, heap_alloc_new w _, Nat.le_refl _, by unfold maxLen; omega, by simp, by simp⟩⟩
  go_enter Tryz.func46, Tryz.ntmps46
  go_wp2_with (at_builtin; refine wpList_append_ow _ rfl _ _ 44 44 rfl (fun g => w.heap.size ≤ g) ?cF 3 i0 (.int .i64 0) 1 8 Tryz.underlying44 hi hz0 hz1 hz2 rfl (by decide) _ _ _ rfl hown _ _ _ rfl hs ?c3 ?c4 ?_)
  case cF => intro g hg; simp at hg; omega
  case c3 => unfold maxLen; omega
  case c4 => omega
  intro v' w1 hown' hgrow
  obtain ⟨a', cap', rfl⟩ := hown'.shape
  go_wp2
  go_ret
  refine ⟨a', cap', by simp, by simpa using hown', ((Below.refl _ _).alloc (Nat.le_refl _) _).grown hgrow (by simp) (fun k hk => ?_)⟩
  simp [Value.ownBlock] at hk; omega

end Go.Proofs.YtoemahhpheobkaaGreatDoor

namespace Go.Proofs.YtoemahhpheobkaaGreatDoor
open Go.RowKit

theorem dlen_any (p r : Nat) (v : Value) (ls : List ByteArray) (ws : List (Nat × ByteArray)) (w : World) (h : DkAt w p r v ls ws) :
    Calls Tryz.prog 87 #[.pointer (some ⟨p, 0, none⟩)] w fun e w' => e = .returned (.int .i64 (ls.length : Int)) ∧ w = w' := by
  have h1 := h.hd
  clear h
  go_enter Tryz.func87, Tryz.ntmps87
  go_wp2
  go_ret
  exact ⟨rfl, rfl⟩

/-- The result of New: the table's block, the space, an empty map. -/
def InPost (n p : Nat) (w : World) (e : Ending) (w' : World) : Prop := ∃ t ps rs m, e = .returned (.tuple #[.pointer (some ⟨t, 0, none⟩), .nilIface]) ∧ Blk w' t [.pointer (some ⟨p, 0, none⟩), .pointer (some ⟨ps, 0, none⟩), .map (some m)] 106 ∧
  SpAt w' ps rs (List.replicate n false) ∧ w'.heap[m]? = some (.map #[] 0) ∧ w.heap.size ≤ ps ∧ w.heap.size ≤ rs ∧ w.heap.size ≤ m ∧ w.heap.size ≤ t ∧ m ≠ t ∧ m ≠ ps ∧ m ≠ rs ∧ t ≠ ps ∧ t ≠ rs ∧ Below w.heap.size w w'

set_option maxRecDepth 100000 in
theorem inew_ok (p r : Nat) (v : Value) (ls : List ByteArray) (ws : List (Nat × ByteArray)) (w : World) (h : DkAt w p r v ls ws) (h1 : 1 ≤ ls.length) (h2 : ls.length ≤ 512) :
    Calls Tryz.prog 57 #[.pointer (some ⟨p, 0, none⟩)] w (InPost ls.length p w) := by
  go_enter Tryz.func57, Tryz.ntmps57
  go_wp2_with fail
  refine (dlen_any p r v ls ws _ h).mono ?_
  rintro e w' ⟨rfl, rfl⟩
  go_wp2_with fail
  refine (spnew_ok ls.length _ h1 h2).mono ?_
  rintro e w1 ⟨ps, rs, rfl, hs, g1, g2, hb⟩
  go_wp2_with fail
  have hmk : (Sem.run Tryz.prog (Instr.makeMap 101 none) w1) = .ok (.map (some w1.heap.size)) (w1.alloc (.map #[] 0)) := rfl
  rw [hmk]
  go_wp2_with fail
  go_ret2
  have hlt := hs.head.lt
  have hlr := hs.row.lt
  refine ⟨w1.heap.size + 1, ps, rs, w1.heap.size, rfl, ?_, ((hs.alloc _).alloc _), ?_, g1, g2, hb.size, by have := hb.size; omega, by omega, by omega, by omega, by omega, by omega, ?_⟩
  · have := Blk.new (w1.alloc (.map #[] 0)) [.pointer (some ⟨p, 0, none⟩), .pointer (some ⟨ps, 0, none⟩), .map (some w1.heap.size)] 106
    simpa using this
  · exact (Below.heap_alloc _ _ _ (by simp)).trans (heap_alloc_new w1 _)
  · exact (hb.alloc (by have := hb.size; omega) _).alloc (by have := hb.size; simp; omega) _

/-- Free: what the space says. -/
theorem ifree_any (t p ps rs m : Nat) (us : List Bool) (w : World) (h : Blk w t [.pointer (some ⟨p, 0, none⟩), .pointer (some ⟨ps, 0, none⟩), .map (some m)] 106) (hs : SpAt w ps rs us) :
    Calls Tryz.prog 21 #[.pointer (some ⟨t, 0, none⟩)] w fun e w' => e = .returned (.int .i64 (nfree us : Nat)) ∧ Below w.heap.size w w' := by
  have h1 := h.cell (i := 1) rfl
  clear h
  go_enter Tryz.func21, Tryz.ntmps21
  go_wp2_with fail
  refine (free_any ps rs us _ hs).mono ?_
  rintro e w' ⟨rfl, hb⟩
  go_wp2_with fail
  go_ret
  exact ⟨rfl, hb⟩
end Go.Proofs.YtoemahhpheobkaaGreatDoor

namespace Go.Proofs.YtoemahhpheobkaaGreatDoor

/-- Piece j of a text: 16 bytes, the last ones zero. -/
def pcL (d : List UInt8) (j : Nat) : List UInt8 := (d.drop (16 * j)).take 16 ++ List.replicate (16 - ((d.drop (16 * j)).take 16).length) 0
def pcB (d : ByteArray) (j : Nat) : ByteArray := ⟨(pcL d.data.toList j).toArray⟩
theorem pcL_len (d : List UInt8) (j : Nat) : (pcL d j).length = 16 := by
  unfold pcL; rw [List.length_append, List.length_replicate, List.length_take]; omega
theorem pcB_list (d : ByteArray) (j : Nat) : (pcB d j).data.toList = pcL d.data.toList j := by simp [pcB]
theorem pcB_size (d : ByteArray) (j : Nat) : (pcB d j).size = 16 := by rw [Lib.size_eq, pcB_list, pcL_len]
/-- The first m pieces, one behind the other. -/
def pcs (d : List UInt8) : Nat → List UInt8
  | 0 => []
  | m + 1 => pcs d m ++ pcL d m
theorem pcs_len (d : List UInt8) : ∀ m, (pcs d m).length = 16 * m
  | 0 => rfl
  | m + 1 => by rw [pcs, List.length_append, pcs_len d m, pcL_len]; omega
theorem pcs_full (d : List UInt8) : ∀ m, 16 * m ≤ d.length → pcs d m = d.take (16 * m)
  | 0, _ => by simp [pcs]
  | m + 1, h => by
    have hl : ((d.drop (16 * m)).take 16).length = 16 := by rw [List.length_take, List.length_drop]; omega
    rw [pcs, pcs_full d m (by omega), pcL, hl, Nat.sub_self, List.replicate_zero, List.append_nil, ← List.take_add]
    congr 1
/-- How many blocks a text needs. -/
def needN (n : Nat) : Nat := if n < 1 then 0 else (n - 1) / 16 + 1
theorem needN_le (n : Nat) (h : n ≤ 2000) : needN n ≤ 125 := by unfold needN; split <;> omega
theorem needN_lo (n : Nat) {j : Nat} (h : j < needN n) : 16 * j < n := by
  unfold needN at h
  split at h <;> omega
theorem needN_hi (n : Nat) : n ≤ 16 * needN n := by unfold needN; split <;> omega
theorem pcs_need (d : List UInt8) : (pcs d (needN d.length)).take d.length = d := by
  by_cases h : d.length < 1
  · have : d = [] := List.eq_nil_of_length_eq_zero (by omega)
    subst this; simp
  · obtain ⟨m, hm⟩ : ∃ m, needN d.length = m + 1 := ⟨(d.length - 1) / 16, by unfold needN; rw [if_neg h]⟩
    have h1 := needN_hi d.length
    have h2 : 16 * m < d.length := needN_lo d.length (by omega)
    rw [hm, pcs, pcs_full d m (by omega), pcL]
    have h3 : (d.drop (16 * m)).take 16 = d.drop (16 * m) := List.take_of_length_le (by rw [List.length_drop]; omega)
    rw [h3, ← List.append_assoc, List.take_append_drop, List.take_left]
def zerosB (n : Nat) : ByteArray := ⟨(List.replicate n (0 : UInt8)).toArray⟩

/-- What waits behind the first j writes. -/
def wsN (l : List Nat) (d : ByteArray) (j : Nat) : List (Nat × ByteArray) := (List.range j).map fun i => (l.getD i 0, pcB d i)
theorem wsN_len (l : List Nat) (d : ByteArray) (j : Nat) : (wsN l d j).length = j := by simp [wsN]
theorem wsN_succ (l : List Nat) (d : ByteArray) (j : Nat) : wsN l d (j + 1) = wsN l d j ++ [(l.getD j 0, pcB d j)] := by simp [wsN, List.range_succ]
/-- The blocks behind the first j of these writes. -/
def lsN (ls : List ByteArray) (l : List Nat) (d : ByteArray) : Nat → List ByteArray
  | 0 => ls
  | j + 1 => (lsN ls l d j).set (l.getD j 0) (pcB d j)
theorem lsN_len (ls : List ByteArray) (l : List Nat) (d : ByteArray) : ∀ j, (lsN ls l d j).length = ls.length
  | 0 => rfl
  | j + 1 => by rw [lsN, List.length_set, lsN_len ls l d j]
theorem lsN_other (ls : List ByteArray) (l : List Nat) (d : ByteArray) (b : Nat) (x : ByteArray) : ∀ j, (∀ i, i < j → l.getD i 0 ≠ b) → (lsN ls l d j).getD b x = ls.getD b x
  | 0, _ => rfl
  | j + 1, h => by
    rw [lsN, List.getD_eq_getElem?_getD, List.getElem?_set_ne (h j (by omega)), ← List.getD_eq_getElem?_getD]
    exact lsN_other ls l d b x j (fun i hi => h i (by omega))
theorem lsN_at (ls : List ByteArray) (l : List Nat) (d : ByteArray) (x : ByteArray) (hb : ∀ b ∈ l, b < ls.length) (hn : l.Nodup) : ∀ j, j ≤ l.length → ∀ i, i < j → (lsN ls l d j).getD (l.getD i 0) x = pcB d i
  | 0, _, i, hi => by omega
  | j + 1, hj, i, hi => by
    have hgi : l.getD i 0 = l[i]'(by omega) := by rw [List.getD_eq_getElem?_getD, List.getElem?_eq_getElem (by omega)]; rfl
    have hgj : l.getD j 0 = l[j]'(by omega) := by rw [List.getD_eq_getElem?_getD, List.getElem?_eq_getElem (by omega)]; rfl
    rw [lsN]
    by_cases e : i = j
    · subst e
      have : l.getD i 0 < (lsN ls l d i).length := by rw [lsN_len, hgi]; exact hb _ (List.getElem_mem _)
      rw [List.getD_eq_getElem?_getD, List.getElem?_set_self this]
      rfl
    · have hne : l.getD j 0 ≠ l.getD i 0 := by
        rw [hgi, hgj]
        intro h
        exact (List.pairwise_iff_getElem.1 hn) i j (by omega) (by omega) (by omega) h.symm
      rw [List.getD_eq_getElem?_getD, List.getElem?_set_ne hne, ← List.getD_eq_getElem?_getD]
      exact lsN_at ls l d x hb hn j (by omega) i (by omega)
end Go.Proofs.YtoemahhpheobkaaGreatDoor

namespace Go.Proofs.YtoemahhpheobkaaGreatDoor
open Go.RowKit

/-- How a pointer reads: by its block. -/
def ptrElem (v : Value) : Option (DataW Unit × List MemPlace) :=
  match v with
  | .pointer none => some (.nil, [])
  | .pointer (some ⟨b, 0, none⟩) => some (.lit (.int .i64 (b : Int)), [])
  | _ => none
def ptrV (o : Option Nat) : Value := .pointer (o.map fun b => ⟨b, 0, none⟩)
theorem ptrElem_some (b : Nat) : ptrElem (.pointer (some ⟨b, 0, none⟩)) = some (.lit (.int .i64 (b : Int)), []) := rfl
theorem ptrElem_inv {v : Value} {b : Nat} {ps : List MemPlace} (h : ptrElem v = some (.lit (.int .i64 (b : Int)), ps)) : v = .pointer (some ⟨b, 0, none⟩) := by
  unfold ptrElem at h
  split at h
  · simp at h
  · simp only [Option.some.injEq, Prod.mk.injEq, DataW.lit.injEq, Lit.int.injEq, true_and] at h
    rw [Int.ofNat.inj h.1]
  · cases h
theorem ptrElem_inv_nil {v : Value} {ps : List MemPlace} (h : ptrElem v = some (.nil, ps)) : v = .pointer none := by
  unfold ptrElem at h
  split at h
  · rfl
  · simp at h
  · cases h
theorem zero_ptr (w : World) : (zeroValue 102).run Tryz.prog w = .ok (.pointer none) w := by kernel_rfl

/-- Block m is a map that holds at k a pointer to block f k. -/
def MapIs (w : World) (m n : Nat) (f : Int → Option Nat) : Prop :=
  ∃ D : DataW Unit, w.ownsMap Tryz.prog 3 ptrElem m n D ∧ ∀ k, -9223372036854775808 ≤ k ∧ k ≤ 9223372036854775807 → ∀ z, D.atKey (.int .i64 k) z = (match f k with | some b => .lit (.int .i64 (b : Int)) | none => z)

section
variable {w w' : World} {m n : Nat} {f : Int → Option Nat}
theorem MapIs.new (w : World) : MapIs (w.alloc (.map #[] 0)) w.heap.size 0 (fun _ => none) := ⟨.map [], World.ownsMap_made w _ _ _, fun _ _ _ => rfl⟩
theorem MapIs.of_heap (h : w.heap[m]? = some (.map #[] 0)) : MapIs w m 0 (fun _ => none) := by
  refine ⟨.map [], ⟨#[], 0, h, ⟨by simp, MapKept.stamped_empty 0, by simp⟩, Nat.le_refl _, rfl⟩, fun _ _ _ => rfl⟩
theorem MapIs.lt (h : MapIs w m n f) : m < w.heap.size := by obtain ⟨D, hD, -⟩ := h; exact hD.lt
theorem MapIs.fr {S : Nat → Prop} (h : MapIs w m n f) (hf : Fr S w w') (hS : ¬ S m) : MapIs w' m n f := by
  obtain ⟨D, ⟨es, clock, hb, r⟩, hk⟩ := h
  exact ⟨D, ⟨es, clock, hf.heap hb hS, r⟩, hk⟩
theorem MapIs.ob {B : Nat} (h : MapIs w m n f) (hf : Below B w w') (hB : w.heap.size ≤ B) : MapIs w' m n f :=
  h.fr (S := fun b => B ≤ b) (Fr.of_below hf (fun _ _ x => x)) (by have := h.lt; omega)
theorem MapIs.ne_blk {b : Nat} {cs : List Value} {T : TypeId} (h : MapIs w m n f) (hb : Blk w b cs T) : m ≠ b := by
  rintro rfl
  obtain ⟨D, ⟨es, clock, hh, -⟩, -⟩ := h
  unfold Blk at hb
  rw [hh] at hb
  cases hb
theorem has_eq_of {D : DataW Unit} {k : Lit} {o : Option Nat} (h : ∀ z, D.atKey k z = (match o with | some b => .lit (.int .i64 (b : Int)) | none => z)) : Maps.has D k = o.isSome := by
  cases o with
  | none => exact Maps.has_false_of_atKey h
  | some b => exact Maps.has_true_of_atKey h
theorem wf_of {k : Int} (hk : -9223372036854775808 ≤ k ∧ k ≤ 9223372036854775807) : (Lit.int .i64 k).wf = true := WalkArith.wf_i64 hk
theorem keyOf_of {k : Int} (hk : -9223372036854775808 ≤ k ∧ k ≤ 9223372036854775807) : keyOf Tryz.prog 3 (.int .i64 k) = some (.int .i64 k) := Maps.keyOf_int_mk Tryz.underlying3 (wf_of hk)
theorem MapIs.look (h : MapIs w m n f) {k : Int} (hk : -9223372036854775808 ≤ k ∧ k ≤ 9223372036854775807) :
    (Instr.lookup 101 (.map (some m)) (.int .i64 k) false).run Tryz.prog w = .ok (ptrV (f k)) w := by
  obtain ⟨D, hD, hf⟩ := h
  obtain ⟨v, ps, hrun, hv⟩ := hD.lookup (Maps.int_keyed Tryz.underlying3) Tryz.underlying101 (zero_ptr w) (show ptrElem (.pointer none) = some (.nil, []) from rfl) (keyOf_of hk)
  rw [hrun]
  rw [hf k hk] at hv
  cases hfk : f k with
  | none => rw [hfk] at hv; rw [ptrElem_inv_nil hv]; rfl
  | some b => rw [hfk] at hv; rw [ptrElem_inv hv]; rfl
theorem MapIs.look_ok (h : MapIs w m n f) {k : Int} (hk : -9223372036854775808 ≤ k ∧ k ≤ 9223372036854775807) :
    (Instr.lookup 101 (.map (some m)) (.int .i64 k) true).run Tryz.prog w = .ok (.tuple #[ptrV (f k), .bool (f k).isSome]) w := by
  obtain ⟨D, hD, hf⟩ := h
  obtain ⟨v, ps, hrun, hv⟩ := hD.look_ok (Maps.int_keyed Tryz.underlying3) Tryz.underlying101 (zero_ptr w) (show ptrElem (.pointer none) = some (.nil, []) from rfl) (keyOf_of hk)
  rw [hrun, has_eq_of (hf k hk)]
  rw [hf k hk] at hv
  cases hfk : f k with
  | none => rw [hfk] at hv; rw [ptrElem_inv_nil hv]; rfl
  | some b => rw [hfk] at hv; rw [ptrElem_inv hv]; rfl
theorem turned_fr (h : w.mapTurned w' m) : Fr (fun b => b = m) w w' := by
  have hg := h.grown
  exact (Fr.refl _ w).grown hg (fun k hk => .inl (Option.some.inj hk).symm)
end

section
variable (w : World) {ops : Array Oper} {rest : List Oper} {o : Oper} {a : Act} {Q : Exit → Act → World → Prop} {m n : Nat} {f : Int → Option Nat}
/-- m[k] = a pointer. -/
theorem wpList_map_store (hg : o.guard = none) (mo xo vo : Operand) (hop : o.op = Op.mapUpdate 101 mo xo vo) (hm : a.eval mo = .map (some m)) (h : MapIs w m n f) (hn : n ≤ 1000000) (k : Int) (b : Nat) (hx : a.eval xo = .int .i64 k) (hv : a.eval vo = .pointer (some ⟨b, 0, none⟩))
    (hk : -9223372036854775808 ≤ k ∧ k ≤ 9223372036854775807)
    (hK : ∀ w', MapIs w' m (n + 1) (fun i => if i = k then some b else f i) → Fr (fun b => b = m) w w' → wpList Tryz.prog ops Q rest (a.put o.dst undef) w') :
    wpList Tryz.prog ops Q (o :: rest) a w := by
  obtain ⟨D, hD, hf⟩ := h
  refine wpList_mapUpdate_in w hg mo xo vo _ hop 3 102 (Maps.int_keyed Tryz.underlying3) Tryz.underlying101 ptrElem m n D hm hD (by unfold maxLen; omega) _ _ _ hx hv (keyOf_of hk) _ [] (ptrElem_some b) (fun w' hD' ht => hK w' ⟨_, hD', fun i hi z => ?_⟩ (turned_fr ht))
  by_cases e : i = k
  · subst e
    rw [Maps.atKey_put_same hD.isMap (show WideAt.IsKeyLit (.int .i64 i) from trivial)]
    simp
  · rw [Maps.atKey_put_other (by simpa using e)]
    simp only [if_neg e]
    exact hf i hi z
/-- delete(m, k). -/
theorem wpList_map_del (hg : o.guard = none) (mo xo : Operand) (hop : o.op = Op.call { callee := Callee.builtin Builtin.delete, args := #[mo, xo], argTypes := #[101, 3] }) (hm : a.eval mo = .map (some m)) (h : MapIs w m n f) (k : Int) (hx : a.eval xo = .int .i64 k)
    (hk : -9223372036854775808 ≤ k ∧ k ≤ 9223372036854775807)
    (hK : ∀ w', MapIs w' m n (fun i => if i = k then none else f i) → Fr (fun b => b = m) w w' → wpList Tryz.prog ops Q rest (a.put o.dst (.tuple #[])) w') :
    wpList Tryz.prog ops Q (o :: rest) a w := by
  obtain ⟨D, hD, hf⟩ := h
  refine wpList_delete_own w hg mo xo _ 3 hop 102 (Maps.int_keyed Tryz.underlying3) Tryz.underlying101 ptrElem m n D hm hD _ _ hx (keyOf_of hk) (fun w' hD' ht => hK w' ⟨_, hD', fun i hi z => ?_⟩ (turned_fr ht))
  by_cases e : i = k
  · subst e
    rw [Maps.atKey_del_same]
    simp
  · rw [Maps.atKey_del_other (by simpa using e)]
    simp only [if_neg e]
    exact hf i hi z
end
end Go.Proofs.YtoemahhpheobkaaGreatDoor

namespace Go.Proofs.YtoemahhpheobkaaGreatDoor
open Go.RowKit

theorem crTo_wsN (ls : List ByteArray) (l : List Nat) (d : ByteArray) (n : Nat) : ∀ j, j ≤ n → crTo (fun _ => true) ls (wsN l d n) j = lsN ls l d j
  | 0, _ => rfl
  | j + 1, h => by
    have hj : j < (wsN l d n).length := by rw [wsN_len]; omega
    rw [crTo_y hj rfl, crTo_wsN ls l d n j (by omega), lsN]
    simp [wsN]
theorem repl_ba (c : Nat) : (⟨(Lib.repeatL [0] c).toArray⟩ : ByteArray) = zb c := by rw [rep_zero]; rfl
theorem rep0 (c : Nat) (w : World) (hc : c ≤ 16) : Calls Tryz.prog 85 #[.string ⟨#[0]⟩, .int .i64 (c : Int)] w fun e w' => e = .returned (.string (zb c)) ∧ Below w.heap.size w w' := by
  refine (Tryz.strings_Repeat ⟨#[0]⟩ c w (by omega) (by show 1 * c ≤ _; omega)).mono ?_
  rintro e w' ⟨rfl, hb⟩
  refine ⟨?_, hb⟩
  rw [← repl_ba]
theorem rest_list {d D : ByteArray} {j : Nat} (h : D.data.toList = d.data.toList.drop (16 * j)) : D.size = d.size - 16 * j := by
  rw [Lib.size_eq, h, List.length_drop, ← Lib.size_eq]
theorem ba_eq {a b : ByteArray} (h : a.data.toList = b.data.toList) : a = b := Go.WideShapes.bytes_inj h
theorem piece_full {d D : ByteArray} {j : Nat} (h : D.data.toList = d.data.toList.drop (16 * j)) (hs : 16 ≤ D.size) : D.extract 0 16 ++ zb 0 = pcB d j := ba_eq (by
  have h1 : ((d.data.toList.drop (16 * j)).take 16).length = 16 := by rw [← h, List.length_take, ← Lib.size_eq]; omega
  rw [pcB_list, pcL, h1, ByteArray.data_append, Array.toList_append, Lib.extract_from_zero, h]
  simp [zb])
theorem piece_last {d D : ByteArray} {j : Nat} (h : D.data.toList = d.data.toList.drop (16 * j)) (hs : D.size < 16) : D ++ zb (16 - D.size) = pcB d j := ba_eq (by
  have h1 : (d.data.toList.drop (16 * j)).take 16 = D.data.toList := by rw [← h]; exact List.take_of_length_le (by rw [← Lib.size_eq]; omega)
  rw [pcB_list, pcL, h1, ByteArray.data_append, Array.toList_append, ← Lib.size_eq]
  simp [zb])

set_option maxRecDepth 100000 in
set_option maxHeartbeats 8000000 in
theorem iwrite_ok (t p r : Nat) (lv : Value) (bl : List Nat) (data : ByteArray) (ls : List ByteArray) (w : World) (htc : w.cell? ⟨t, 0, none⟩ = some (.pointer (some ⟨p, 0, none⟩))) (hdk : DkAt w p r (.slice none 0 0) ls []) (hlv : Sl w lv (ints bl) bl.length 1)
    (hlb : ∀ k, lv.ownBlock = some k → k ≠ p ∧ k ≠ r) (hb : ∀ b ∈ bl, b < ls.length) (hn : bl.length = needN data.size) (hds : data.size ≤ 2000) (htp : t ≠ p ∧ t ≠ r) :
    Calls Tryz.prog 66 #[.pointer (some ⟨t, 0, none⟩), lv, .string data] w fun e w' => (∃ u, e = .returned u) ∧ DkAt w' p r (.slice none 0 0) (lsN ls bl data bl.length) [] ∧ Fr (fun b => b = p ∨ b = r) w w' := by
  obtain ⟨la, lcap, rfl, -⟩ := id hlv
  have hbl125 : bl.length ≤ 125 := by rw [hn]; exact needN_le _ hds
  have HN := hidd hn
  clear hn
  have htl := World.block_lt_of_cell? w _ htc
  simp only at htl
  go_enter Tryz.func66, Tryz.ntmps66
  go_wp2_with fail
  go_loopw [2, 11] (fun dv i wr => ∃ (j : Nat) (v : Value) (D : ByteArray), j ≤ bl.length ∧ i = .int .i64 (j : Int) ∧ dv = .string D ∧ D.data.toList = data.data.toList.drop (16 * j) ∧ DkAt wr p r v ls (wsN bl data j) ∧ (∀ b, v.ownBlock = some b → w.heap.size ≤ b) ∧ Fr (fun b => b = p ∨ b = r) w wr) (fun _ i _ => bl.length - (intOf i).toNat)
  case atStart => exact ⟨0, _, data, Nat.zero_le _, rfl, rfl, by simp, hdk, fun b hb => by simp [Value.ownBlock] at hb, Fr.refl _ _⟩
  case round =>
    obtain ⟨j, v, D, hj, rfl, rfl, hD, hdr, hvl, hfr⟩ := hrel
    have htr : wr.cell? ⟨t, 0, none⟩ = some (.pointer (some ⟨p, 0, none⟩)) := hfr.cell htc (by rintro (h | h); exact htp.1 h; exact htp.2 h)
    have hsr := hlv.fr hfr (fun k hk e => by rcases e with e | e; exact (hlb k hk).1 e; exact (hlb k hk).2 e)
    have hDs := rest_list hD
    have hszr := hfr.size
    by_cases hlt : j < bl.length
    · obtain ⟨sb, so, rfl, -, hc, hcell⟩ := hsr.at1 hlt
      rw [show (ints bl)[j] = .int .i64 ((bl[j] : Nat) : Int) by simp [ints]] at hcell
      have hk : bl[j] < ls.length := hb _ (List.getElem_mem _)
      have hg : bl.getD j 0 = bl[j] := by rw [List.getD_eq_getElem?_getD, List.getElem?_eq_getElem hlt]; rfl
      have hws := wsN_succ bl data j
      rw [hg] at hws
      have hlo : 16 * j < data.size := needN_lo data.size (by rw [← (show bl.length = needN data.size from HN)]; exact hlt)
      have q1 : (0 : Int) ≤ (j : Int) := by omega
      have q2 : (j : Int) < (bl.length : Int) := by omega
      have hwl := wsN_len bl data j
      have hps := pcB_size data j
      generalize bl[j] = k at *
      clear hg hc
      have HW := hidd hws
      have HPS := hidd hps
      have HWL := hidd hwl
      by_cases h16 : 16 ≤ D.size
      · have HP := hidd (piece_full hD h16)
        have hm : min (D.size : Int) 16 = 16 := by omega
        have r1 : (16 : Int) ≤ (D.size : Int) := by omega
        have HD2 : Hid ((D.extract 16 D.size).data.toList = data.data.toList.drop (16 * (j + 1))) := hidd (by
          rw [Lib.extract_to_end, hD, List.drop_drop]; congr 1)
        have HDS := hidd hDs
        clear hws hps hwl hD hDs
        go_wp2_with fail
        have HB2 : Hid (∀ w9, Below wr.heap.size wr.drew w9 → DkAt w9 p r v ls (wsN bl data j) ∧ w9.cell? ⟨t, 0, none⟩ = some (.pointer (some ⟨p, 0, none⟩)) ∧ Fr (fun b => b = p ∨ b = r) w w9) := hidd (fun w9 hw9 => ⟨hdr.ob ((Below.refl _ wr).drew.trans hw9) (Nat.le_refl _), (Fr.ob (S := fun _ => False) ((Below.refl _ wr).drew.trans hw9)).cell htr (fun x => x), hfr.trans (Fr.ob ((Below.refl _ wr).drew.trans hw9))⟩)
        have hcd : wr.drew.cell? ⟨t, 0, none⟩ = some (.pointer (some ⟨p, 0, none⟩)) := htr
        clear htr hdr hfr hlv hsr hcell hds q1 q2
        go_region_with (first
          | (go_at_call 85; refine (rep0 0 _ (by omega)).mono ?_; rintro e w9 ⟨rfl, hbl⟩; obtain ⟨hd3, hc3, hf3⟩ := HB2.out w9 hbl)
          | (go_at_call 90; rw [HP.out]; refine (write_ok p r _ ls (wsN bl data j) k (pcB data j) _ hd3 hk HPS.out (by rw [HWL.out]; omega)).mono ?_; rintro e w8 ⟨rfl, v', hdk2, hv2, hf2⟩))
        all_goals
          go_wp2_with fail
          go_roundw
          case rel => exact ⟨j + 1, v', _, by omega, by go_num, rfl, HD2.out, by rw [HW.out]; exact hdk2, fun b hb => by
            rcases hv2 b hb with h | h
            · exact hvl b h
            · have := hf3.size; omega, hf3.trans' hf2 (fun _ _ x => x) (fun i hi hx => by
            rcases hx with h | h | h
            · exact .inl h
            · exact .inr h
            · have := hvl i h; omega)⟩
          case measure => simp [intOf]; omega
      · have hext : D.extract 0 D.size = D := by simp
        have HP := hidd (piece_last hD (by omega))
        have hm : min (D.size : Int) 16 = (D.size : Int) := by omega
        have r2 : ¬ (16 : Int) ≤ (D.size : Int) := by omega
        obtain ⟨c, hc⟩ : ∃ c, c = 16 - D.size := ⟨_, rfl⟩
        have hwr : IntKind.i64.wrap (16 - (D.size : Int)) = (c : Int) := by rw [i64_in _ (by omega)]; omega
        have HD2 : Hid (ByteArray.empty.data.toList = data.data.toList.drop (16 * (j + 1))) := hidd (by
          rw [List.drop_eq_nil_of_le (by rw [← Lib.size_eq]; omega)]; rfl)
        have HDS := hidd hDs
        rw [← hc] at HP
        have HC : Hid (c ≤ 16) := hidd (by omega)
        have hcat : ¬ 9223372036854775807 < D.size + (zb c).size := by rw [zb_size]; omega
        clear hc hext
        clear hws hps hwl hD hDs
        have HB2 : Hid (∀ w9, Below wr.heap.size wr.drew w9 → DkAt w9 p r v ls (wsN bl data j) ∧ w9.cell? ⟨t, 0, none⟩ = some (.pointer (some ⟨p, 0, none⟩)) ∧ Fr (fun b => b = p ∨ b = r) w w9) := hidd (fun w9 hw9 => ⟨hdr.ob ((Below.refl _ wr).drew.trans hw9) (Nat.le_refl _), (Fr.ob (S := fun _ => False) ((Below.refl _ wr).drew.trans hw9)).cell htr (fun x => x), hfr.trans (Fr.ob ((Below.refl _ wr).drew.trans hw9))⟩)
        have hcd : wr.drew.cell? ⟨t, 0, none⟩ = some (.pointer (some ⟨p, 0, none⟩)) := htr
        go_wp2_with fail
        clear htr hdr hfr hlv hsr hcell hds q1 q2
        go_region_with (first
          | (go_at_call 85; refine (rep0 c _ HC.out).mono ?_; rintro e w9 ⟨rfl, hbl⟩; obtain ⟨hd3, hc3, hf3⟩ := HB2.out w9 hbl)
          | (go_at_call 90; rw [HP.out]; refine (write_ok p r _ ls (wsN bl data j) k (pcB data j) _ hd3 hk HPS.out (by rw [HWL.out]; omega)).mono ?_; rintro e w8 ⟨rfl, v', hdk2, hv2, hf2⟩))
        all_goals
          go_wp2_with fail
          go_roundw
          case rel => exact ⟨j + 1, v', _, by omega, by go_num, rfl, HD2.out, by rw [HW.out]; exact hdk2, fun b hb => by
            rcases hv2 b hb with h | h
            · exact hvl b h
            · have := hf3.size; omega, hf3.trans' hf2 (fun _ _ x => x) (fun i hi hx => by
            rcases hx with h | h | h
            · exact .inl h
            · exact .inr h
            · have := hvl i h; omega)⟩
          case measure => simp [intOf]; omega
    · obtain rfl : j = bl.length := by omega
      have hq : ¬ ((bl.length : Int) < (bl.length : Int)) := by omega
      clear hD hDs hlt
      go_wp2_with fail
      refine (barrier_any p r v ls _ _ hdr).mono ?_
      rintro e w8 ⟨⟨u, rfl⟩, hdk2, hf2⟩
      rw [wsN_len, crTo_wsN _ _ _ _ _ (Nat.le_refl _)] at hdk2
      go_wp2_with fail
      go_end0
      exact ⟨⟨_, rfl⟩, hdk2, hfr.trans hf2⟩
end Go.Proofs.YtoemahhpheobkaaGreatDoor
