/- What InodeKeeps holds beside the table: texts and links that it was told. No condition. -/
import Derived.Test.YtmcmkocnacdniaaDoorIn8
namespace Go.Proofs.YtmcmkocnacdniaaDoor
open Go.RowKit

theorem set_drop_take {α : Type} (l : List α) (off n i : Nat) (u : α) : ((l.set (off + i) u).drop off).take n = ((l.drop off).take n).set i u := by
  rw [List.drop_set, if_neg (by omega), List.take_set]
  congr 1
  omega
/-- A cell of an owned row is turned. -/
theorem Ow.put {F : Nat → Prop} {w : World} {e : TypeId} {g off n cap : Nat} {xs : List Value} (h : Ow F w e 1 (.slice (some ⟨g, off, none⟩) n cap) n xs) {i : Nat} (_hi : i < n) (u : Value) : Ow F (w.setCell ⟨g, off + i, none⟩ u) e 1 (.slice (some ⟨g, off, none⟩) n cap) n (xs.set i u) := by
  obtain ⟨hl, hx | ⟨g', off', cap', cur, hv, hF, hg, h1, h2, h3, h4⟩⟩ := h
  · cases hx.1
  · injection hv with hv _ hc
    injection hv with hv
    injection hv with e1 e2 _
    subst e1 e2 hc
    refine ⟨by rw [List.length_set]; exact hl, .inr ⟨g, off, cap, cur.setIfInBounds (off + i) u, rfl, hF, ?_, h1, h2, by simpa using h3, ?_⟩⟩
    · simp [World.setCell, Array.getElem?_modify, hg]
    · rw [← h4, ← set_drop_take, Array.toList_setIfInBounds]

theorem Ow.thaw {F : Nat → Prop} {w : World} {e : TypeId} {size : Nat} {g off n cap : Nat} {xs : List Value} (h : Ow F w e size (.slice (some ⟨g, off, none⟩) n cap) n xs) (i : Nat) : w.frozen? ⟨g, i, none⟩ = false := by
  rcases h.2 with hx | ⟨g', off', cap', cur, hv, -, hg, -⟩
  · cases hx.1
  · injection hv with hv _ _
    injection hv with hv
    injection hv with e1 _ _
    subst e1
    simp [World.frozen?, hg]
theorem Ow.at1 {F : Nat → Prop} {w : World} {e : TypeId} {a : Option Addr} {n cap : Nat} {xs : List Value} (h : Ow F w e 1 (.slice a n cap) n xs) {i : Nat} (hi : i < n) : ∃ g off, a = some ⟨g, off, none⟩ ∧ w.cell? ⟨g, off + i, none⟩ = some (xs.getD i undef) ∧ (∀ j, w.frozen? ⟨g, j, none⟩ = false) := by
  obtain ⟨g, off, rfl, -, hx, hc⟩ := h.sl.at1 hi
  exact ⟨g, off, rfl, by rw [hc, List.getD_eq_getElem?_getD, List.getElem?_eq_getElem hx]; rfl, h.thaw⟩
theorem ints_getD {l : List Nat} {i : Nat} (h : i < l.length) : (ints l).getD i undef = .int .i64 ((l.getD i 0 : Nat) : Int) := by
  simp [ints, List.getD_eq_getElem?_getD, List.getElem?_eq_getElem h]
theorem strs_getD {l : List ByteArray} {i : Nat} (h : i < l.length) : (l.map Value.string).getD i undef = .string (l.getD i ByteArray.empty) := by
  simp [List.getD_eq_getElem?_getD, List.getElem?_eq_getElem h]
def lenV : Value → Nat
  | .slice _ n _ => n
  | _ => 0

/-- What the statement holds. -/
structure RwSt (w0 w : World) (t p r ps rs m N : Nat) (T : Nat → Option Ino) (us : List Bool) (ls : List ByteArray) (dv lv : Value) (Ds : List ByteArray) (Ls : List Nat) : Prop where
  tb : TbAt w w0.heap.size t p r ps rs m N T us ls
  dat : Ow (fun g => g ≠ r ∧ w0.heap.size ≤ g) w 9 1 dv Ds.length (Ds.map Value.string)
  lnk : Ow (fun g => w0.heap.size ≤ g) w 3 1 lv Ls.length (ints Ls)
  apart : ∀ k x g, T k = some x → x.bv.ownBlock = some g → lv.ownBlock ≠ some g
  below : Below w0.heap.size w0 w

section
variable {w0 w w' : World} {t p r ps rs m N : Nat} {T : Nat → Option Ino} {us : List Bool} {ls : List ByteArray} {dv lv : Value} {Ds : List ByteArray} {Ls : List Nat}
theorem RwSt.ob (h : RwSt w0 w t p r ps rs m N T us ls dv lv Ds Ls) (hf : Below w.heap.size w w') : RwSt w0 w' t p r ps rs m N T us ls dv lv Ds Ls :=
  ⟨h.tb.ob hf, h.dat.ob hf, h.lnk.ob hf, h.apart, h.below.trans (hf.mono h.below.size)⟩
theorem RwSt.more (h : RwSt w0 w t p r ps rs m N T us ls dv lv Ds Ls) {N' : Nat} (hN : N ≤ N') : RwSt w0 w t p r ps rs m N' T us ls dv lv Ds Ls := { h with tb := h.tb.more hN }
theorem RwSt.datN (h : RwSt w0 w t p r ps rs m N T us ls dv lv Ds Ls) : ∀ g, dv.ownBlock = some g → ¬ tbS p r rs m T g := by
  rintro g hg (rfl | rfl | rfl | rfl | ⟨l, x, hx, rfl⟩)
  · exact own_ne h.dat h.tb.dk.head (by decide) hg
  · exact (h.dat.blk _ hg).1.1 rfl
  · exact own_ne h.dat h.tb.sp.row (by decide) hg
  · obtain ⟨n, -, hm⟩ := h.tb.mp; exact own_ne_map h.dat hm hg
  · exact own_ne h.dat (h.tb.ino l x hx).blk (by decide) hg
/-- An act on the table. -/
theorem RwSt.op (h : RwSt w0 w t p r ps rs m N T us ls dv lv Ds Ls) {N' : Nat} {T' : Nat → Option Ino} {us' : List Bool} {ls' : List ByteArray} (htb : TbAt w' w0.heap.size t p r ps rs m N' T' us' ls') (hf : Fr (tbS p r rs m T) w w')
    (hap : ∀ k x, T' k = some x → (∃ k0 y, T k0 = some y ∧ y.bv = x.bv) ∨ (∀ g, x.bv.ownBlock = some g → w.heap.size ≤ g)) : RwSt w0 w' t p r ps rs m N' T' us' ls' dv lv Ds Ls where
  tb := htb
  dat := h.dat.fr hf h.datN
  lnk := h.lnk.fr hf (fun g hg => h.tb.apart h.lnk g hg)
  apart := fun k x g hx hg e => by
    rcases hap k x hx with ⟨k0, y, hy, he⟩ | hn
    · exact h.apart k0 y g hy (by rw [he]; exact hg) e
    · have := hn g hg
      have := (h.lnk.blk g e).2
      omega
  below := h.below.trans (hf.below h.below.size h.tb.baseS)
/-- The frame of a write into one of the statement's own rows. -/
theorem RwSt.tbfr (h : RwSt w0 w t p r ps rs m N T us ls dv lv Ds Ls) {S : Nat → Prop} (hf : Fr S w w') (hS : ∀ b, S b → ¬ tbS p r rs m T b ∧ (∃ cur e, w.heap[b]? = some (.cells cur e (0, 0)) ∧ (e = 9 ∨ e = 3)) ∧ (∀ k x, T k = some x → x.bv.ownBlock ≠ some b)) : TbAt w' w0.heap.size t p r ps rs m N T us ls := by
  have hty : ∀ {b : Nat} {cs : List Value} {U : TypeId}, Blk w b cs U → U ≠ 9 → U ≠ 3 → ¬ S b := by
    intro b cs U hb h1 h2 hs
    obtain ⟨-, ⟨cur, e, hc, he⟩, -⟩ := hS b hs
    unfold Blk at hb
    rw [hb] at hc
    injection hc with hc
    injection hc with _ hc
    subst hc
    rcases he with he | he
    · exact h1 he
    · exact h2 he
  refine { h.tb with
    tab := h.tb.tab.fr hf (hty h.tb.tab (by decide) (by decide))
    dk := h.tb.dk.fr hf (by
      rintro b (rfl | rfl | hb') hs
      · exact (hS _ hs).1 (.inl rfl)
      · exact (hS _ hs).1 (.inr (.inl rfl))
      · simp [Value.ownBlock] at hb')
    sp := h.tb.sp.fr hf (hty h.tb.sp.head (by decide) (by decide)) (hty h.tb.sp.row (by decide) (by decide))
    mp := by
      obtain ⟨n, hn, hm⟩ := h.tb.mp
      exact ⟨n, hn, hm.fr hf (fun hs => (hS _ hs).1 (.inr (.inr (.inr (.inl rfl)))))⟩
    ino := fun k x hx => (h.tb.ino k x hx).fr hf (hty (h.tb.ino k x hx).blk (by decide) (by decide)) (fun g hg hs => (hS g hs).2.2 k x hx hg) }
theorem RwSt.rowS (h : RwSt w0 w t p r ps rs m N T us ls dv lv Ds Ls) : ∀ b, (dv.ownBlock = some b ∨ lv.ownBlock = some b) → ¬ tbS p r rs m T b ∧ (∃ cur e, w.heap[b]? = some (.cells cur e (0, 0)) ∧ (e = 9 ∨ e = 3)) ∧ (∀ k x, T k = some x → x.bv.ownBlock ≠ some b) := by
  have hc : ∀ {F : Nat → Prop} {U : TypeId} {v : Value} {n : Nat} {xs : List Value}, Ow F w U 1 v n xs → ∀ b, v.ownBlock = some b → ∃ cur, w.heap[b]? = some (.cells cur U (0, 0)) := by
    intro F U v n xs ho b hb
    rcases ho.2 with ⟨rfl, -⟩ | ⟨g, o, cap, cur, rfl, -, hg, -⟩
    · simp [Value.ownBlock] at hb
    · simp [Value.ownBlock] at hb; subst hb; exact ⟨cur, hg⟩
  rintro b (hb | hb)
  · obtain ⟨cur, hcur⟩ := hc h.dat b hb
    refine ⟨h.datN b hb, ⟨cur, _, hcur, .inl rfl⟩, fun k x hx e => ?_⟩
    obtain ⟨cur', hcur'⟩ := hc (h.tb.ino k x hx).row b e
    rw [hcur] at hcur'
    injection hcur' with hc'
    injection hc' with _ hc'
    exact absurd hc' (by decide)
  · obtain ⟨cur, hcur⟩ := hc h.lnk b hb
    exact ⟨h.tb.apart h.lnk b hb, ⟨cur, _, hcur, .inr rfl⟩, fun k x hx e => h.apart k x b hx e hb⟩
theorem RwSt.dl (h : RwSt w0 w t p r ps rs m N T us ls dv lv Ds Ls) : ∀ b, dv.ownBlock = some b → lv.ownBlock ≠ some b := by
  intro b hb hb2
  rcases h.dat.2 with ⟨rfl, -⟩ | ⟨g, o, cap, cur, rfl, -, hg, -⟩
  · simp [Value.ownBlock] at hb
  · rcases h.lnk.2 with ⟨rfl, -⟩ | ⟨g', o', cap', cur', rfl, -, hg', -⟩
    · simp [Value.ownBlock] at hb2
    · simp [Value.ownBlock] at hb hb2
      subst hb hb2
      rw [hg] at hg'
      injection hg' with hc'
      injection hc' with _ hc'
      exact absurd hc' (by decide)
/-- The texts' row is another one. -/
theorem RwSt.newD (h : RwSt w0 w t p r ps rs m N T us ls dv lv Ds Ls) (hf : Fr (fun b => dv.ownBlock = some b) w w') {dv' : Value} {Ds' : List ByteArray} (ho : Ow (fun g => g ≠ r ∧ w0.heap.size ≤ g) w' 9 1 dv' Ds'.length (Ds'.map Value.string)) : RwSt w0 w' t p r ps rs m N T us ls dv' lv Ds' Ls :=
  ⟨h.tbfr hf (fun b hb => h.rowS b (.inl hb)), ho, h.lnk.fr hf (fun g hg hs => h.dl g hs hg), h.apart, h.below.trans (hf.below h.below.size (fun i hi => (h.dat.blk i hi).1.2))⟩
/-- The links' row is another one. -/
theorem RwSt.newL (h : RwSt w0 w t p r ps rs m N T us ls dv lv Ds Ls) (hf : Fr (fun b => lv.ownBlock = some b) w w') {lv' : Value} {Ls' : List Nat} (ho : Ow (fun g => w0.heap.size ≤ g) w' 3 1 lv' Ls'.length (ints Ls')) (hap : ∀ g, lv'.ownBlock = some g → lv.ownBlock = some g ∨ w.heap.size ≤ g) : RwSt w0 w' t p r ps rs m N T us ls dv lv' Ds Ls' :=
  ⟨h.tbfr hf (fun b hb => h.rowS b (.inr hb)), h.dat.fr hf (fun g hg hs => h.dl g hg hs), ho, (fun k x g hx hg e => by
    rcases hap g e with e' | e'
    · exact h.apart k x g hx hg e'
    · have := ((h.tb.ino k x hx).row.blk g hg).2; omega), h.below.trans (hf.below h.below.size (fun i hi => (h.lnk.blk i hi).1))⟩
theorem RwSt.putD (h : RwSt w0 w t p r ps rs m N T us ls dv lv Ds Ls) {g off cap : Nat} (hv : dv = .slice (some ⟨g, off, none⟩) Ds.length cap) {i : Nat} (hi : i < Ds.length) (s : ByteArray) : RwSt w0 (w.setCell ⟨g, off + i, none⟩ (.string s)) t p r ps rs m N T us ls dv lv (Ds.set i s) Ls := by
  subst hv
  have ho := h.dat.put hi (.string s)
  rw [show (Ds.map Value.string).set i (.string s) = (Ds.set i s).map Value.string by rw [List.map_set]] at ho
  have hf : Fr (fun b => (Value.slice (some ⟨g, off, none⟩) Ds.length cap).ownBlock = some b) w (w.setCell ⟨g, off + i, none⟩ (.string s)) := (Fr.refl (fun b => (Value.slice (some ⟨g, off, none⟩) Ds.length cap).ownBlock = some b) w).setCell (p := ⟨g, off + i, none⟩) (.inl rfl) _
  exact h.newD hf (by rw [List.length_set]; exact ho)
theorem RwSt.putL (h : RwSt w0 w t p r ps rs m N T us ls dv lv Ds Ls) {g off cap : Nat} (hv : lv = .slice (some ⟨g, off, none⟩) Ls.length cap) {i : Nat} (hi : i < Ls.length) (s : Nat) : RwSt w0 (w.setCell ⟨g, off + i, none⟩ (.int .i64 (s : Int))) t p r ps rs m N T us ls dv lv Ds (Ls.set i s) := by
  subst hv
  have ho := h.lnk.put hi (.int .i64 (s : Int))
  rw [show (ints Ls).set i (.int .i64 (s : Int)) = ints (Ls.set i s) by simp [ints, List.map_set]] at ho
  have hf : Fr (fun b => (Value.slice (some ⟨g, off, none⟩) Ls.length cap).ownBlock = some b) w (w.setCell ⟨g, off + i, none⟩ (.int .i64 (s : Int))) := (Fr.refl (fun b => (Value.slice (some ⟨g, off, none⟩) Ls.length cap).ownBlock = some b) w).setCell (p := ⟨g, off + i, none⟩) (.inl rfl) _
  exact h.newL hf (by rw [List.length_set]; exact ho) (fun g hg => .inl hg)
theorem TbAt.ltS {B : Nat} (h : TbAt w B t p r ps rs m N T us ls) : ∀ b, tbS p r rs m T b → b < w.heap.size := by
  rintro b (rfl | rfl | rfl | rfl | ⟨l, x, hx, rfl⟩)
  · exact h.dk.head.lt
  · exact h.dk.row.lt
  · exact h.sp.row.lt
  · obtain ⟨n, -, hm⟩ := h.mp; exact hm.lt
  · exact (h.ino l x hx).blk.lt
end

/-- What the rows tell of the table. -/
structure ValOk (T : Nat → Option Ino) (Ds : List ByteArray) (Ls : List Nat) : Prop where
  has : ∀ k x, T k = some x → k < Ls.length ∧ Ls.getD k 0 = x.links ∧ Ds.getD k ByteArray.empty = x.data
  non : ∀ k, T k = none → Ls.getD k 0 = 0
  eq : Ds.length = Ls.length
theorem getD_set_ne {α : Type} (l : List α) {i j : Nat} (d u : α) (h : i ≠ j) : (l.set i u).getD j d = l.getD j d := by
  rw [List.getD_eq_getElem?_getD, List.getElem?_set_ne h, ← List.getD_eq_getElem?_getD]
theorem getD_set_eq {α : Type} (l : List α) {i : Nat} (d u : α) (h : i < l.length) : (l.set i u).getD i d = u := by
  rw [List.getD_eq_getElem?_getD, List.getElem?_set_self h]; rfl
theorem ValOk.put {T : Nat → Option Ino} {Ds : List ByteArray} {Ls : List Nat} (h : ValOk T Ds Ls) {k : Nat} (hk : k < Ls.length) (x : Ino) : ValOk (upd T k (some x)) (Ds.set k x.data) (Ls.set k x.links) := by
  have he := h.eq
  refine ⟨fun i y hy => ?_, fun i hi => ?_, by simpa using he⟩
  · by_cases e : i = k
    · subst e; rw [upd_same] at hy; cases hy
      rw [List.length_set, getD_set_eq _ _ _ hk, getD_set_eq _ _ _ (by omega)]
      exact ⟨hk, rfl, rfl⟩
    · rw [upd_other _ _ _ e] at hy
      obtain ⟨h1, h2, h3⟩ := h.has i y hy
      rw [List.length_set, getD_set_ne _ _ _ (fun e' => e e'.symm), getD_set_ne _ _ _ (fun e' => e e'.symm)]
      exact ⟨h1, h2, h3⟩
  · by_cases e : i = k
    · subst e; rw [upd_same] at hi; cases hi
    · rw [upd_other _ _ _ e] at hi
      rw [getD_set_ne _ _ _ (fun e' => e e'.symm)]
      exact h.non i hi
theorem ValOk.relink {T : Nat → Option Ino} {Ds : List ByteArray} {Ls : List Nat} (h : ValOk T Ds Ls) {k : Nat} {x : Ino} (hx : T k = some x) (l : Nat) : ValOk (upd T k (some { x with links := l })) Ds (Ls.set k l) := by
  obtain ⟨h1, h2, h3⟩ := h.has k x hx
  refine ⟨fun i y hy => ?_, fun i hi => ?_, by simpa using h.eq⟩
  · by_cases e : i = k
    · subst e; rw [upd_same] at hy; cases hy
      rw [List.length_set, getD_set_eq _ _ _ h1]
      exact ⟨h1, rfl, h3⟩
    · rw [upd_other _ _ _ e] at hy
      rw [List.length_set, getD_set_ne _ _ _ (fun e' => e e'.symm)]
      exact h.has i y hy
  · by_cases e : i = k
    · subst e; rw [upd_same] at hi; cases hi
    · rw [upd_other _ _ _ e] at hi
      rw [getD_set_ne _ _ _ (fun e' => e e'.symm)]
      exact h.non i hi
theorem ValOk.drop {T : Nat → Option Ino} {Ds : List ByteArray} {Ls : List Nat} (h : ValOk T Ds Ls) {k : Nat} {x : Ino} (hx : T k = some x) : ValOk (upd T k none) Ds (Ls.set k 0) := by
  obtain ⟨h1, h2, h3⟩ := h.has k x hx
  refine ⟨fun i y hy => ?_, fun i hi => ?_, by simpa using h.eq⟩
  · by_cases e : i = k
    · subst e; rw [upd_same] at hy; cases hy
    · rw [upd_other _ _ _ e] at hy
      rw [List.length_set, getD_set_ne _ _ _ (fun e' => e e'.symm)]
      exact h.has i y hy
  · by_cases e : i = k
    · subst e; exact getD_set_eq _ _ _ h1
    · rw [upd_other _ _ _ e] at hi
      rw [getD_set_ne _ _ _ (fun e' => e e'.symm)]
      exact h.non i hi
theorem ValOk.push {T : Nat → Option Ino} {Ds : List ByteArray} {Ls : List Nat} (h : ValOk T Ds Ls) : ValOk T (Ds ++ [ByteArray.empty]) (Ls ++ [0]) := by
  have he := h.eq
  refine ⟨fun i y hy => ?_, fun i hi => ?_, by simpa using he⟩
  · obtain ⟨h1, h2, h3⟩ := h.has i y hy
    refine ⟨by simp; omega, ?_, ?_⟩
    · rw [← h2, List.getD_eq_getElem?_getD, List.getElem?_append_left h1, ← List.getD_eq_getElem?_getD]
    · rw [← h3, List.getD_eq_getElem?_getD, List.getElem?_append_left (by omega), ← List.getD_eq_getElem?_getD]
  · by_cases hl : i < Ls.length
    · rw [List.getD_eq_getElem?_getD, List.getElem?_append_left hl, ← List.getD_eq_getElem?_getD]
      exact h.non i hi
    · rw [List.getD_eq_getElem?_getD, List.getElem?_append_right (by omega)]
      cases hh : [0][i - Ls.length]? with
      | none => rfl
      | some y => have := List.mem_of_getElem? hh; simp at this; subst this; rfl
end Go.Proofs.YtmcmkocnacdniaaDoor
