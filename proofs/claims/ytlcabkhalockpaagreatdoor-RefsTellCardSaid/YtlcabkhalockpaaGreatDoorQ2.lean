/- A map from texts to values of a known list, that the calls themselves have made: looking up, storing, its keys. Condition: the map's types are those of the walk. -/
import Derived.Test.YtlcabkhalockpaaGreatDoorB
import Derived.Test.YtlcabkhalockpaaGreatDoorProg
import Derived.Test.YtlcabkhalockpaaGreatDoorQ0
import Derived.Maps.OwnSet
import Derived.Maps.OwnOps
import Derived.StringKeys
import Derived.Sort.KeysCollected
namespace Go.Proofs.YtlcabkhalockpaaGreatDoor
open Go.RowKit Go.Maps

open Classical in
/-- A value's place in a list. -/
noncomputable def ix (vals : List Value) (v : Value) : Nat := vals.findIdx fun u => decide (u = v)
theorem ix_at {vals : List Value} {v : Value} (h : v ∈ vals) : vals[ix vals v]? = some v := by
  classical
  have hlt : ix vals v < vals.length := List.findIdx_lt_length_of_exists ⟨v, h, by simp⟩
  rw [List.getElem?_eq_getElem hlt]
  have := List.findIdx_getElem (w := hlt)
  simp only [decide_eq_true_eq] at this
  exact congrArg some this
theorem ix_inj {vals : List Value} {u v : Value} (hu : u ∈ vals) (hv : v ∈ vals) (h : ix vals u = ix vals v) : u = v := by
  have h1 := ix_at hu
  rw [h, ix_at hv] at h1
  exact (Option.some.inj h1).symm
open Classical in
/-- How a value of the list reads: by its place. -/
noncomputable def vElem (vals : List Value) (v : Value) : Option (DataW Unit × List MemPlace) := if v ∈ vals then some (.lit (.int .i64 (ix vals v : Int)), []) else none
theorem vElem_some {vals : List Value} {v : Value} (h : v ∈ vals) : vElem vals v = some (.lit (.int .i64 (ix vals v : Int)), []) := if_pos h
theorem vElem_inv {vals : List Value} {u v : Value} {ps : List MemPlace} (hu : u ∈ vals) (h : vElem vals v = some (.lit (.int .i64 (ix vals u : Int)), ps)) : v = u := by
  unfold vElem at h
  split at h
  · rename_i hv
    simp only [Option.some.injEq, Prod.mk.injEq, DataW.lit.injEq, Lit.int.injEq, true_and] at h
    exact ix_inj hv hu (Int.ofNat.inj h.1)
  · cases h

/-- Block m is a map of at most n entries that holds f s at s. -/
def MapS (vals : List Value) (w : World) (m n : Nat) (f : ByteArray → Option Value) : Prop :=
  ∃ D : DataW Unit, w.ownsMap Tryz.prog 9 (vElem vals) m n D ∧ (∀ s v, f s = some v → v ∈ vals) ∧ ∀ s z, D.atKey (.string s.data.toList) z = (match f s with | some v => .lit (.int .i64 (ix vals v : Int)) | none => z)

section
variable {vals : List Value} {w w' : World} {m n : Nat} {f : ByteArray → Option Value} {t e : TypeId} {z : Value}
theorem MapS.new (vals : List Value) (w : World) : MapS vals (w.alloc (.map #[] 0)) w.heap.size 0 (fun _ => none) := ⟨.map [], World.ownsMap_made w _ _ _, fun _ _ h => absurd h (by simp), fun _ _ => rfl⟩
theorem MapS.lt (h : MapS vals w m n f) : m < w.heap.size := by obtain ⟨D, hD, -⟩ := h; exact hD.lt
theorem MapS.fr {S : Nat → Prop} (h : MapS vals w m n f) (hf : Fr S w w') (hS : ¬ S m) : MapS vals w' m n f := by
  obtain ⟨D, ⟨es, clock, hb, r⟩, hk⟩ := h
  exact ⟨D, ⟨es, clock, hf.heap hb hS, r⟩, hk⟩
theorem MapS.ob {B : Nat} (h : MapS vals w m n f) (hf : Below B w w') (hB : m < B) : MapS vals w' m n f := by
  obtain ⟨D, ⟨es, clock, hb, r⟩, hk⟩ := h
  exact ⟨D, ⟨es, clock, (hf.block m hB).trans hb, r⟩, hk⟩
theorem MapS.low (h : MapS vals w m n f) (hf : Below w.heap.size w w') : MapS vals w' m n f := h.ob hf h.lt
theorem MapS.mono (h : MapS vals w m n f) {n' : Nat} (hn : n ≤ n') : MapS vals w m n' f := by
  obtain ⟨D, hD, hk⟩ := h
  exact ⟨D, hD.mono hn, hk⟩
theorem MapS.ne_blk {b : Nat} {cs : List Value} {T : TypeId} (h : MapS vals w m n f) (hb : Blk w b cs T) : m ≠ b := by
  rintro rfl
  obtain ⟨D, ⟨es, clock, hh, -⟩, -⟩ := h
  unfold Blk at hb
  rw [hh] at hb
  cases hb
theorem hasS {D : DataW Unit} {k : Lit} {o : Option Value} (h : ∀ z, D.atKey k z = (match o with | some v => .lit (.int .i64 (ix vals v : Int)) | none => z)) : Maps.has D k = o.isSome := by
  cases o with
  | none => exact Maps.has_false_of_atKey h
  | some b => exact Maps.has_true_of_atKey h
theorem keyS {s : ByteArray} (hs : s.size ≤ 9223372036854775807) : keyOf Tryz.prog 9 (.string s) = some (.string s.data.toList) := WideMaps.keyOf_string_mk Tryz.underlying9 (by unfold maxLen; omega)
theorem MapS.look (h : MapS vals w m n f) (ht : Tryz.prog.underlying t = some (.map 9 e)) (hz : (zeroValue e).run Tryz.prog w = .ok z w) (hzv : z ∈ vals) {s : ByteArray} (hs : s.size ≤ 9223372036854775807) :
    (Instr.lookup t (.map (some m)) (.string s) false).run Tryz.prog w = .ok ((f s).getD z) w := by
  obtain ⟨D, hD, hv, hf⟩ := h
  obtain ⟨v, ps, hrun, hR⟩ := hD.lookup (Maps.string_keyed Tryz.underlying9) ht hz (vElem_some hzv) (keyS hs)
  rw [hrun]
  rw [hf s] at hR
  cases hfs : f s with
  | none => rw [hfs] at hR; rw [vElem_inv hzv hR]; rfl
  | some u => rw [hfs] at hR; rw [vElem_inv (hv s u hfs) hR]; rfl
theorem MapS.look_ok (h : MapS vals w m n f) (ht : Tryz.prog.underlying t = some (.map 9 e)) (hz : (zeroValue e).run Tryz.prog w = .ok z w) (hzv : z ∈ vals) {s : ByteArray} (hs : s.size ≤ 9223372036854775807) :
    (Instr.lookup t (.map (some m)) (.string s) true).run Tryz.prog w = .ok (.tuple #[(f s).getD z, .bool (f s).isSome]) w := by
  obtain ⟨D, hD, hv, hf⟩ := h
  obtain ⟨v, ps, hrun, hR⟩ := hD.look_ok (Maps.string_keyed Tryz.underlying9) ht hz (vElem_some hzv) (keyS hs)
  rw [hrun, hasS (hf s)]
  rw [hf s] at hR
  cases hfs : f s with
  | none => rw [hfs] at hR; rw [vElem_inv hzv hR]; rfl
  | some u => rw [hfs] at hR; rw [vElem_inv (hv s u hfs) hR]; rfl
theorem turnedS (h : w.mapTurned w' m) : Fr (fun b => b = m) w w' := (Fr.refl _ w).grown h.grown (fun _ hk => .inl (Option.some.inj hk).symm)
theorem upd_ok {w' : World} {D : DataW Unit} (hD : w.ownsMap Tryz.prog 9 (vElem vals) m n D) (hvs : ∀ s v, f s = some v → v ∈ vals) (hf : ∀ s z, D.atKey (.string s.data.toList) z = (match f s with | some v => .lit (.int .i64 (ix vals v : Int)) | none => z)) (s : ByteArray) (v : Value) (hvv : v ∈ vals)
    (hD' : w'.ownsMap Tryz.prog 9 (vElem vals) m (n + 1) (D.put (.string s.data.toList) (.lit (.int .i64 (ix vals v : Int))))) : MapS vals w' m (n + 1) (fun i => if i = s then some v else f i) := by
  refine ⟨_, hD', fun i u hi => ?_, fun i z => ?_⟩
  · by_cases hie : i = s
    · simp only [if_pos hie, Option.some.injEq] at hi
      subst hi; exact hvv
    · simp only [if_neg hie] at hi
      exact hvs i u hi
  · by_cases e : i = s
    · subst e
      rw [Maps.atKey_put_same hD.isMap (show WideAt.IsKeyLit (.string i.data.toList) from trivial)]
      simp
    · rw [Maps.atKey_put_other (by
        intro k
        exact e (toList_inj (by simpa using k)))]
      simp only [if_neg e]
      exact hf i z
/-- Storing: the operation's run, and what it leaves. -/
theorem MapS.store (h : MapS vals w m n f) (ht : Tryz.prog.underlying t = some (.map 9 e)) (hn : n ≤ 1000000) (s : ByteArray) (v : Value) (hvv : v ∈ vals) (hs : s.size ≤ 9223372036854775807) :
    ∃ w', (Instr.mapUpdate t (.map (some m)) (.string s) v).run Tryz.prog w = .ok () w' ∧ MapS vals w' m (n + 1) (fun i => if i = s then some v else f i) ∧ Fr (fun b => b = m) w w' := by
  obtain ⟨D, hD, hvs, hf⟩ := h
  obtain ⟨w', hrun, r1, r2⟩ := hD.store (Maps.string_keyed Tryz.underlying9) ht (by unfold maxLen; omega) (keyS hs) (vElem_some hvv)
  exact ⟨w', hrun, upd_ok hD hvs hf s v hvv r1, turnedS r2⟩
/-- The keys, in any order: each once, those that are there. -/
theorem MapS.keys (h : MapS vals w m n f) : ∃ D : DataW Unit, w.ownsMap Tryz.prog 9 (vElem vals) m n D ∧ (strKeys D).Nodup ∧ (∀ x, x ∈ strKeys D ↔ (f ⟨x.toArray⟩).isSome = true) ∧ Maps.size D ≤ n := by
  obtain ⟨D, hD, -, hf⟩ := h
  refine ⟨D, hD, ?_, ?_, hD.size_le⟩
  · obtain ⟨es, hD1, hpw, _⟩ := hD.entries (Maps.string_keyed Tryz.underlying9)
    obtain ⟨es', hD2, hk⟩ := hD.keysOf
    obtain rfl : es = es' := by rw [hD1] at hD2; simpa using hD2
    subst hD1
    show (List.map (fun p : Lit × DataW Unit => strOf p.1) es).Nodup
    refine List.pairwise_map.2 (hpw.imp_of_mem fun {p q} hp' hq' hne e => hne ?_)
    obtain ⟨a, ha⟩ := hk p hp'
    obtain ⟨b, hb⟩ := hk q hq'
    obtain ⟨x, -, ha, -⟩ := Maps.keyOf_str Tryz.underlying9 ha
    obtain ⟨y, -, hb, -⟩ := Maps.keyOf_str Tryz.underlying9 hb
    rw [ha, hb] at e ⊢
    exact congrArg _ e
  · intro x
    have h1 := hasS (hf ⟨x.toArray⟩)
    simp only at h1
    rw [← h1]
    obtain ⟨es, rfl, hk⟩ := hD.keysOf
    simp only [Maps.has_eq, List.any_eq_true]
    show x ∈ es.map (fun p => strOf p.1) ↔ _
    rw [List.mem_map]
    constructor
    · rintro ⟨p, hp, rfl⟩
      obtain ⟨v, hv⟩ := hk p hp
      obtain ⟨y, -, hy, -⟩ := Maps.keyOf_str Tryz.underlying9 hv
      refine ⟨p, hp, ?_⟩
      rw [hy]
      exact (WideAt.sameKey_iff (show WideAt.IsKeyLit (.string y) from trivial)).2 rfl
    · rintro ⟨p, hp, he⟩
      obtain ⟨v, hv⟩ := hk p hp
      obtain ⟨y, -, hy, -⟩ := Maps.keyOf_str Tryz.underlying9 hv
      refine ⟨p, hp, ?_⟩
      have := (WideAt.sameKey_iff (show WideAt.IsKeyLit (.string x) from trivial)).1 he
      rw [this]
      rfl
end

section
variable (w : World) {ops : Array Oper} {rest : List Oper} {o : Oper} {a : Act} {Q : Exit → Act → World → Prop} {vals : List Value} {m n : Nat} {f : ByteArray → Option Value}
/-- m[s] = v. -/
theorem wpList_mapS (hg : o.guard = none) (mo xo vo : Operand) (t e : TypeId) (hop : o.op = Op.mapUpdate t mo xo vo) (ht : Tryz.prog.underlying t = some (.map 9 e)) (hm : a.eval mo = .map (some m)) (h : MapS vals w m n f) (hn : n ≤ 1000000) (s : ByteArray) (v : Value) (hx : a.eval xo = .string s) (hv : a.eval vo = v) (hvv : v ∈ vals)
    (hs : s.size ≤ 9223372036854775807)
    (hK : ∀ w', MapS vals w' m (n + 1) (fun i => if i = s then some v else f i) → Fr (fun b => b = m) w w' → wpList Tryz.prog ops Q rest (a.put o.dst undef) w') :
    wpList Tryz.prog ops Q (o :: rest) a w := by
  obtain ⟨D, hD, hvs, hf⟩ := h
  refine wpList_mapUpdate_in w hg mo xo vo _ hop 9 e (Maps.string_keyed Tryz.underlying9) ht (vElem vals) m n D hm hD (by unfold maxLen; omega) _ _ _ hx hv (keyS hs) _ [] (vElem_some hvv) (fun w' hD' ht => hK w' (upd_ok hD hvs hf s v hvv hD') (turnedS ht))
end
end Go.Proofs.YtlcabkhalockpaaGreatDoor
