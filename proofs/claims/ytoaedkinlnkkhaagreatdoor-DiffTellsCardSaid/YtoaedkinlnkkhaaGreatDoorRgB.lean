/- What the reference's setOf makes, in plain words; what stands while it goes. No condition. · The contract of the reference's setOf. Condition: the trees are there, the one that is turned is well. -/
import Derived.Test.YtoaedkinlnkkhaaGreatDoorPwU
import Derived.Test.YtoaedkinlnkkhaaGreatDoorRgA
import Derived.BigQuiet
namespace Go.Proofs.YtoaedkinlnkkhaaGreatDoor
open Go.RowKit
section
variable {α : Type}
/-- What setOf makes: a node set at names, or the one there dropped. -/
def setT (drop : Bool) (x : Tr α) (l : List ByteArray) (t : Tr α) : Option (Tr α) :=
  if drop = true then (match atT t l with | none => none | some _ => some (withoutT l t)) else withT x l t
theorem setT_put (x : Tr α) (l : List ByteArray) (t : Tr α) : setT false x l t = withT x l t := if_neg (by decide)
theorem setT_none {x t : Tr α} {l : List ByteArray} (h : atT t l = none) : setT true x l t = none := by unfold setT; rw [if_pos rfl, h]
theorem setT_some {x t y : Tr α} {l : List ByteArray} (h : atT t l = some y) : setT true x l t = some (withoutT l t) := by unfold setT; rw [if_pos rfl, h]
theorem fnd_at {ks : List (ByteArray × α)} {n : ByteArray} {i : Nat} (hr : rising (ks.map (·.1)) = true) (h1 : ∀ j (h : j < ks.length), j < i → cmpB ks[j].1 n < 0) (hi : i ≤ ks.length) (h2 : ∀ h : i < ks.length, 0 ≤ cmpB ks[i].1 n) {f : Bool} (hf : f = true ↔ ∃ h : i < ks.length, ks[i].1 = n) : FndK ks n i f := by
  refine ⟨hi, h1, fun j hj hji => ?_, hf⟩
  by_cases e : j = i
  · subst e; exact h2 hj
  · have h3 := rising_lt hr i j (by omega) (by simpa using hj)
    simp only [List.getElem_map] at h3
    have h4 := h2 (by omega)
    have h5 := cmpB_swap ks[i].1 n
    have h6 := cmpB_swap ks[j].1 n
    by_cases h7 : 0 ≤ cmpB ks[j].1 n
    · exact h7
    · have := cmpB_trans h3 (by omega : cmpB ks[j].1 n < 0)
      omega
end
section
variable {X : Nd} {n da : ByteArray} {ex : Bool} {v : Value} {ks : List (ByteArray × Lt)} {r : List ByteArray} {k : Nat} {drop : Bool}
theorem find_bare : (Tr.mk kDir da ex v ks : Lt).bare.kids.find? (fun x => decide (x.1 = n)) = (ks.find? (fun x => decide (x.1 = n))).map fun x => (x.1, x.2.bare) := by
  rw [bare_mk, kids_mk, List.find?_map]; rfl
theorem set_miss (hr : rising (ks.map (·.1)) = true) (h : FndK ks n k false) : setT drop X (n :: r) (Tr.mk kDir da ex v ks : Lt).bare = if r = [] ∧ drop = false then some (.mk kDir da ex () ((ks.take k).map (fun x => (x.1, x.2.bare)) ++ (n, X) :: (ks.drop k).map fun x => (x.1, x.2.bare))) else none := by
  cases drop with
  | false =>
    rw [setT_put, bare_miss h]
    by_cases e : r = []
    · rw [if_pos e, if_pos ⟨e, rfl⟩]
    · rw [if_neg e, if_neg (fun h => e h.1)]
  | true =>
    rw [if_neg (fun h => by cases h.2), setT_none]
    rw [atT, find_bare, find_none hr h]; rfl
theorem set_out (h : FndK ks n k true) : setT true X [n] (Tr.mk kDir da ex v ks : Lt).bare = some (.mk kDir da ex () ((ks.take k ++ ks.drop (k + 1)).map fun x => (x.1, x.2.bare))) := by
  obtain ⟨hk, hn, hf⟩ := find_some h
  obtain ⟨_, _, hw⟩ := bare_out (da := da) (ex := ex) (v := v) (r := []) h
  rw [setT_some (y := ks[k].2.bare), hw, if_pos rfl]
  rw [atT, find_bare, hf]; rfl
theorem set_hit (h : FndK ks n k true) (hd : ¬ (r = [] ∧ drop = true)) : ∃ hk : k < ks.length, ks[k].1 = n ∧ setT drop X (n :: r) (Tr.mk kDir da ex v ks : Lt).bare = (setT drop X r ks[k].2.bare).map fun y => .mk kDir da ex () ((ks.take k).map (fun x => (x.1, x.2.bare)) ++ (n, y) :: (ks.drop (k + 1)).map fun x => (x.1, x.2.bare)) := by
  cases drop with
  | false =>
    obtain ⟨hk, hn, hw⟩ := bare_hit (X := X) (da := da) (ex := ex) (v := v) (r := r) h
    exact ⟨hk, hn, by rw [setT_put, setT_put, hw]⟩
  | true =>
    obtain ⟨hk, hn, hf⟩ := find_some h
    obtain ⟨_, _, hw⟩ := bare_out (da := da) (ex := ex) (v := v) (r := r) h
    refine ⟨hk, hn, ?_⟩
    have ha : atT (Tr.mk kDir da ex v ks : Lt).bare (n :: r) = atT ks[k].2.bare r := by rw [atT, find_bare, hf]; rfl
    cases hx : atT ks[k].2.bare r with
    | none => rw [setT_none (ha.trans hx), setT_none hx]; rfl
    | some y =>
      rw [setT_some (ha.trans hx), setT_some hx, hw, if_neg (fun e => hd ⟨e, rfl⟩)]; rfl
theorem set_leaf {X t : Nd} (h : ownE t = 0) (hk : t.kind ≠ kDir) : setT drop X (n :: r) t = none := by
  cases drop with
  | false => rw [setT_put, with_leaf hk]
  | true =>
    apply setT_none
    rw [atT, own_leaf h hk]; rfl
end
mutual
theorem in_both {F G : Nat → Prop} : ∀ t : Lt, t.In F → t.In G → t.In (fun b => F b ∧ G b)
  | .mk _ _ _ _ ks => fun h k => by rw [Tr.In] at h k ⊢; exact ⟨fun hn b hb => ⟨h.1 hn b hb, k.1 hn b hb⟩, inS_both ks h.2 k.2⟩
theorem inS_both {F G : Nat → Prop} : ∀ ks : List (ByteArray × Lt), InS F ks → InS G ks → InS (fun b => F b ∧ G b) ks
  | [] => fun _ _ => by rw [InS]; trivial
  | (n, t) :: r => fun h k => by rw [InS] at h k ⊢; exact ⟨in_both t h.1 k.1, inS_both r h.2 k.2⟩
end
/-- What setOf gives. -/
def SetP (drop : Bool) (t x : Lt) (l : List ByteArray) (w : World) (e : Ending) (w' : World) : Prop :=
  ∃ (y : Lt) (b : Bool), e = .returned (.tuple #[nval y, .bool b]) ∧ y.Ok w' ∧ (∀ F : Nat → Prop, t.In F → x.In F → y.In (fun b => F b ∨ w.heap.size ≤ b)) ∧ Below w.heap.size w w' ∧ (match setT drop x.bare l t.bare with | some Y => b = true ∧ y.bare = Y | none => b = false)
theorem SetP.parts {drop : Bool} {t x : Lt} {l : List ByteArray} {w : World} {e : Ending} {w' : World} (h : SetP drop t x l w e w') : ∃ (ky dy : ByteArray) (ey : Bool) (ya : Option Addr) (yc : Nat) (ksy : List (ByteArray × Lt)) (b : Bool),
    e = .returned (.tuple #[.agg #[.string ky, .string dy, .bool ey, .slice ya ksy.length yc], .bool b]) ∧ Hid ((Tr.mk ky dy ey (.slice ya ksy.length yc) ksy : Lt).Ok w') ∧ Hid (∀ F : Nat → Prop, t.In F → x.In F → (Tr.mk ky dy ey (.slice ya ksy.length yc) ksy : Lt).In (fun b => F b ∨ w.heap.size ≤ b)) ∧ Below w.heap.size w w' ∧
    Hid (match setT drop x.bare l t.bare with | some Y => b = true ∧ (Tr.mk ky dy ey (.slice ya ksy.length yc) ksy : Lt).bare = Y | none => b = false) := by
  obtain ⟨y, b, rfl, hy, hi, hb, hm⟩ := h
  obtain ⟨ya, yc, hyv⟩ := hy.shape
  obtain ⟨ky, dy, ey, vy, ksy⟩ := y
  simp only [Tr.v, Tr.kids] at hyv
  subst hyv
  exact ⟨ky, dy, ey, ya, yc, ksy, b, rfl, hy, hi, hb, hm⟩

/-- What holds at the head of setOf's loop. -/
structure SoI (w : World) (t x : Lt) (v : Value) (l : List ByteArray) (R : Option Nd) (n : ByteArray) (done : Bool) (i : Nat) (ls : List (ByteArray × Lt)) (kv : Value) (W : World) : Prop where
  k : WtK w t x v l W
  ow : Ow (fun g => w.heap.size + 3 ≤ g) W 58 5 kv ls.length (kcells ls)
  ok : Oks W ls
  inn : InS (fun b => b < W.heap.size ∧ kv.ownBlock ≠ some b) ls
  inF : ∀ F : Nat → Prop, t.In F → x.In F → InS (fun b => F b ∨ w.heap.size + 3 ≤ b) ls
  nm : ∀ y ∈ ls, y.1.size ≤ 140737488351232
  hi : i ≤ t.kids.length
  len : ls.length ≤ i + 1
  st : (done = false ∧ ls = t.kids.take i ∧ ∀ j (h : j < t.kids.length), j < i → cmpB t.kids[j].1 n < 0) ∨ (done = true ∧ R = some (.mk t.kind t.data t.exec () ((ls ++ t.kids.drop i).map fun x => (x.1, x.2.bare))))
section
variable {w : World} {t x : Lt} {v : Value} {l : List ByteArray} {R : Option Nd} {n : ByteArray} {done : Bool} {i : Nat} {ls : List (ByteArray × Lt)} {kv : Value} {W W' : World}
theorem SoI.later (h : SoI w t x v l R n done i ls kv W) (hb : Below W.heap.size W W') : SoI w t x v l R n done i ls kv W' :=
  ⟨h.k.later hb, h.ow.ob hb, oks_ob hb ls h.ok, inS_mono (fun b hh => ⟨by have := hb.size; omega, hh.2⟩) ls h.inn, h.inF, h.nm, h.hi, h.len, h.st⟩
theorem SoI.drew (h : SoI w t x v l R n done i ls kv W) : SoI w t x v l R n done i ls kv W.drew := h.later (Below.refl _ _).drew
theorem SoI.alloc (h : SoI w t x v l R n done i ls kv W) (o : Obj) : SoI w t x v l R n done i ls kv (W.alloc o) := h.later ((Below.refl _ _).alloc (Nat.le_refl _) o)
theorem SoI.move (h : SoI w t x v l R n done i ls kv W) {done' : Bool} {i' : Nat} (hi' : i' ≤ t.kids.length) (hii : i ≤ i')
    (hst : (done' = false ∧ ls = t.kids.take i' ∧ ∀ j (h : j < t.kids.length), j < i' → cmpB t.kids[j].1 n < 0) ∨ (done' = true ∧ R = some (.mk t.kind t.data t.exec () ((ls ++ t.kids.drop i').map fun x => (x.1, x.2.bare))))) : SoI w t x v l R n done' i' ls kv W :=
  ⟨h.k, h.ow, h.ok, h.inn, h.inF, h.nm, hi', by have := h.len; omega, hst⟩
/-- One kid more. -/
theorem SoI.app (h : SoI w t x v l R n done i ls kv W) {kv' : Value} {kid : ByteArray × Lt} (hF : Fr (fun b => kv.ownBlock = some b) W W')
    (hown : Ow (fun g => W.heap.size ≤ g ∨ kv.ownBlock = some g) W' 58 5 kv' (ls.length + 1) (kcells ls ++ kcells [kid])) (hk : kid.2.Ok W) (hki : kid.2.In (fun b => b < W.heap.size ∧ kv.ownBlock ≠ some b))
    (hkF : ∀ F : Nat → Prop, t.In F → x.In F → kid.2.In (fun b => F b ∨ w.heap.size + 3 ≤ b)) (hkn : kid.1.size ≤ 140737488351232) {done' : Bool} {i' : Nat} (hi' : i' ≤ t.kids.length) (hl : ls.length ≤ i')
    (hst : (done' = false ∧ ls ++ [kid] = t.kids.take i' ∧ ∀ j (h : j < t.kids.length), j < i' → cmpB t.kids[j].1 n < 0) ∨ (done' = true ∧ R = some (.mk t.kind t.data t.exec () ((ls ++ [kid] ++ t.kids.drop i').map fun x => (x.1, x.2.bare))))) :
    SoI w t x v l R n done' i' (ls ++ [kid]) kv' W' := by
  have hz := hF.size
  have hob := h.ow.blk
  have hnb := hown.blk
  have hkw := h.k.bz.lt
  refine ⟨?_, ?_, ?_, ?_, ?_, ?_, hi', by rw [List.length_append]; simp; omega, hst⟩
  · exact h.k.low (hF.below (by omega) (fun b hb => (hob b hb).1))
  · rw [kcells_app, List.length_append]
    exact hown.mono (fun g hg => by
      rcases hg with h1 | h1
      · omega
      · exact (hob g h1).1)
  · rw [oks_iff]
    intro y hy
    rcases List.mem_append.1 hy with h1 | h1
    · exact ok_fr hF y.2 (oks_iff.1 h.ok y h1) (in_mono (fun b hb => hb.2) y.2 (inS_iff.1 h.inn y h1))
    · simp only [List.mem_cons, List.not_mem_nil, or_false] at h1
      subst h1
      exact ok_fr hF y.2 hk (in_mono (fun b hb => hb.2) y.2 hki)
  · rw [inS_iff]
    intro y hy
    have key : ∀ b, (b < W.heap.size ∧ kv.ownBlock ≠ some b) → b < W'.heap.size ∧ kv'.ownBlock ≠ some b := fun b hb => ⟨by omega, fun e => by
      rcases (hnb b e).1 with h2 | h2
      · omega
      · exact hb.2 h2⟩
    rcases List.mem_append.1 hy with h1 | h1
    · exact in_mono key y.2 (inS_iff.1 h.inn y h1)
    · simp only [List.mem_cons, List.not_mem_nil, or_false] at h1
      subst h1
      exact in_mono key y.2 hki
  · intro F hF1 hF2
    rw [inS_iff]
    intro y hy
    rcases List.mem_append.1 hy with h1 | h1
    · exact inS_iff.1 (h.inF F hF1 hF2) y h1
    · simp only [List.mem_cons, List.not_mem_nil, or_false] at h1
      subst h1
      exact hkF F hF1 hF2
  · intro y hy
    rcases List.mem_append.1 hy with h1 | h1
    · exact h.nm y h1
    · simp only [List.mem_cons, List.not_mem_nil, or_false] at h1
      subst h1
      exact hkn
/-- What lay there ahead of the call lies in none of the kids' blocks. -/
theorem SoI.elder (h : SoI w t x v l R n done i ls kv W) {y : Lt} (hy : y.Ok w) : y.In (fun b => b < W.heap.size ∧ kv.ownBlock ≠ some b) :=
  in_mono (fun b hb => ⟨by have := h.k.bz.lt; omega, fun e => by have := (h.ow.blk b e).1; omega⟩) y (ok_in y hy)
/-- What lies there from the call on, or lay there ahead of all. -/
theorem SoI.young (h : SoI w t x v l R n done i ls kv W) {y : Lt} (hW : y.Ok W') (_hb : Below W.heap.size W W') (hy : y.In (fun b => b < w.heap.size ∨ W.heap.size ≤ b)) : y.In (fun b => b < W'.heap.size ∧ kv.ownBlock ≠ some b) := by
  have h1 := ok_in y hW
  have h2 : ∀ b, kv.ownBlock = some b → w.heap.size + 3 ≤ b ∧ b < W.heap.size := h.ow.blk
  exact in_both y h1 (in_mono (fun b hh e => by have := h2 b e; omega) y hy)
end
end Go.Proofs.YtoaedkinlnkkhaaGreatDoor

namespace Go.Proofs.YtoaedkinlnkkhaaGreatDoor
open Go.RowKit

theorem less_cmp (a b : ByteArray) : Op.bytesLess a.toList b.toList = decide (cmpB a b < 0) := by
  unfold cmpB; rw [Lib.toList_data, Lib.toList_data, cmp_less]

/-- What stands while a kid is turned. -/
structure SoJ (w : World) (t x : Lt) (v : Value) (l : List ByteArray) (kb : Nat) (kc : List Value) (W : World) : Prop where
  k : WtK w t x v l W
  b : Blk W kb kc 58
  hb : w.heap.size + 3 ≤ kb
section
variable {w : World} {t x : Lt} {v : Value} {l : List ByteArray} {kb : Nat} {kc : List Value} {W W' : World}
theorem SoJ.later (h : SoJ w t x v l kb kc W) (hb : Below W.heap.size W W') : SoJ w t x v l kb kc W' := ⟨h.k.later hb, h.b.below hb h.b.lt, h.hb⟩
theorem SoJ.drew (h : SoJ w t x v l kb kc W) : SoJ w t x v l kb kc W.drew := h.later (Below.refl _ _).drew
theorem SoJ.alloc (h : SoJ w t x v l kb kc W) (o : Obj) : SoJ w t x v l kb kc (W.alloc o) := h.later ((Below.refl _ _).alloc (Nat.le_refl _) o)
theorem SoJ.four (h : SoJ w t x v l kb kc W) {p : Nat} (hp : w.heap.size + 3 ≤ p) (hk : kb ≠ p) (x0 x1 x2 x3 : Value) : SoJ w t x v l kb kc ((((W.setCell ⟨p, 0, none⟩ x0).setCell ⟨p, 1, none⟩ x1).setCell ⟨p, 2, none⟩ x2).setCell ⟨p, 3, none⟩ x3) :=
  ⟨h.k.four hp x0 x1 x2 x3, h.b.fr ((Fr.refl (fun b => b = p) W).four (p := p) (.inl rfl) x0 x1 x2 x3) hk, h.hb⟩
end
theorem SoI.endT {w : World} {kd da : ByteArray} {ex' : Bool} {va : Value} {ks : List (ByteArray × Lt)} {x : Lt} {v : Value} {l : List ByteArray} {R : Option Nd} {n : ByteArray} {i : Nat} {ls : List (ByteArray × Lt)} {a : Option Addr} {c : Nat} {W W' : World}
    (h : SoI w (.mk kd da ex' va ks) x v l R n true i ls (.slice a ls.length c) W) (hi : ¬ i < ks.length) (hF : Fr (fun b => b = w.heap.size ∨ b = w.heap.size + 2) W W') :
    (Tr.mk kd da ex' (.slice a ls.length c) ls : Lt).Ok W' ∧ (∀ F : Nat → Prop, (Tr.mk kd da ex' va ks : Lt).In F → x.In F → (Tr.mk kd da ex' (.slice a ls.length c) ls : Lt).In (fun b => F b ∨ w.heap.size ≤ b)) ∧ Below w.heap.size w W' ∧ R = some (Tr.mk kd da ex' (.slice a ls.length c) ls : Lt).bare := by
  have hob := h.ow.blk
  refine ⟨Tr.Ok.mk' ?_ h.nm (oks_iff.1 ?_), fun F h1 h2 => ?_, h.k.below.trans (hF.below h.k.below.size (fun b e => by omega)), ?_⟩
  · exact (h.ow.fr hF (fun j hj e => by have := (hob j hj).1; omega)).sl
  · refine oks_fr hF ls h.ok (inS_mono (fun b hb e => by omega) ls (h.inF (fun b => b < w.heap.size) (ok_in _ h.k.ot0) (ok_in _ h.k.ox0)))
  · rw [Tr.In]
    exact ⟨fun _ b hb => .inr (by have := (hob b hb).1; omega), inS_mono (fun b hb => by
      rcases hb with hb | hb
      · exact .inl hb
      · exact .inr (by omega)) ls (h.inF F h1 h2)⟩
  · rcases h.st with ⟨h1, -⟩ | ⟨-, h1⟩
    · cases h1
    · rw [h1, bare_mk]
      simp only [Tr.kind, Tr.data, Tr.exec, Tr.kids]
      rw [List.drop_of_length_le (by omega), List.append_nil]
set_option maxRecDepth 100000 in
set_option maxHeartbeats 40000000 in
theorem set_cons (drop : Bool) (n : ByteArray) (r : List ByteArray) (ih : ∀ (t x : Lt) (v : Value) (w : World), (drop = true → r ≠ []) → t.Ok w → x.Ok w → treeE t = 0 → Sl w v (tcells r) r.length 1 → (∀ m ∈ r, m.size ≤ 140737488351232) → Calls Tryz.prog 82 #[nval t, v, nval x, .bool drop] w (SetP drop t x r w))
    (t x : Lt) (v : Value) (w : World) (ht : t.Ok w) (hx : x.Ok w) (h0 : treeE t = 0) (hl : Sl w v (tcells (n :: r)) (n :: r).length 1) (hnz : ∀ m ∈ n :: r, m.size ≤ 140737488351232) :
    Calls Tryz.prog 82 #[nval t, v, nval x, .bool drop] w (SetP drop t x (n :: r) w) := by
  obtain ⟨i0, hii, hz0, hz1, hz2⟩ := info_parts infoKid
  obtain ⟨la, lc, rfl, -⟩ := id hl
  have hle := hl.le
  obtain ⟨a, cap, hv⟩ := ht.shape
  obtain ⟨xa, xc, hxv⟩ := hx.shape
  have hK := with_start t x la lc (n :: r) w a xa cap xc hv hxv ht hx hl
  have HX := hidd hx
  have HT := hidd ht
  obtain ⟨kx, dx, ex, vx, ksx⟩ := x
  obtain ⟨kd, da, ex', va, ks⟩ := t
  simp only [Tr.kind, Tr.data, Tr.exec, Tr.v, Tr.kids] at hK hxv hv
  subst hxv
  subst hv
  unfold nval
  simp only [Tr.kind, Tr.data, Tr.exec, Tr.v]
  have x0 := hK.bt.cell (i := 0) rfl
  have x1 := hK.bt.cell (i := 1) rfl
  have x2 := hK.bt.cell (i := 2) rfl
  have x3 := hK.bt.cell (i := 3) rfl
  simp only [Tr.kind, Tr.data, Tr.exec, Tr.v] at x0 x1 x2 x3
  have HK := hidd hK
  have hlen : ((n :: r).length : Int) = (r.length : Int) + 1 := by simp
  have HR0 := hidd h0
  have p0 : ((r.length : Int) + 1 == 0) = false := by simp; omega
  clear hl
  by_cases hd : kd = kDir
  · subst hd
    have e1 : (kDir.toList == [100, 105, 114]) = true := by rw [kDir_list]; rfl
    obtain ⟨lb, lo, rfl, hlb, hlc, hcell⟩ := hK.hl.at1 (i := 0) (by simp)
    have hex : ex' = false := ((own_dir rfl).1 (treeE_own h0).1).2.1
    obtain ⟨R, hR⟩ : ∃ R, setT drop (Tr.bare (.mk kx dx ex (.slice xa ksx.length xc) ksx)) (n :: r) (Tr.bare (.mk kDir da ex' (.slice a ks.length cap) ks)) = R := ⟨_, rfl⟩
    have HR := hidd hR
    have hI : SoI w (.mk kDir da ex' (.slice a ks.length cap) ks) (.mk kx dx ex (.slice xa ksx.length xc) ksx) (.slice (some ⟨lb, lo, none⟩) (n :: r).length lc) (n :: r) R n false 0 [] (.slice none 0 0) _ :=
      ⟨hK, Ow.nil _ _ _ _, by rw [Oks]; trivial, by rw [InS]; trivial, fun _ _ _ => by rw [InS]; trivial, fun y hy => by simp at hy, Nat.zero_le _, Nat.zero_le _, .inl ⟨rfl, rfl, fun j h hj => by omega⟩⟩
    have hkl : ks.length ≤ 200 := right_kids h0
    clear hlb hcell hlc ht hx h0 hR hK hex
    go_enter Tryz.func82, Tryz.ntmps82
    go_wp2_with fail
    go_loopw [10, 11, 12, 13, 14, 15] (fun kv dv iv _ _ _ wr => ∃ (done : Bool) (i : Nat) (ls : List (ByteArray × Lt)), dv = .bool done ∧ iv = .int .i64 (i : Int) ∧
      SoI w (.mk kDir da ex' (.slice a ks.length cap) ks) (.mk kx dx ex (.slice xa ksx.length xc) ksx) (.slice (some ⟨lb, lo, none⟩) (n :: r).length lc) (n :: r) R n done i ls kv wr) (fun _ _ iv _ _ _ _ => ks.length - (intOf iv).toNat)
    case atStart => exact ⟨false, 0, [], rfl, rfl, hI⟩
    case round =>
      obtain ⟨done, i, ls, rfl, rfl, hI⟩ := hrel
      have hiks := hI.hi
      simp only [Tr.kids] at hiks
      obtain ⟨x0, x1, x2, x3, k0⟩ := hI.k.c
      have hzr0 : w.heap.size + 3 ≤ wr.heap.size := hI.k.bz.lt
      obtain ⟨va, vc, rfl⟩ := hI.ow.shape
      have hvb0 := hI.ow.blk
      by_cases hlt : i < ks.length
      · obtain ⟨g, off, rfl, hgl, a0, a1, a2, a3, a4⟩ := hI.k.ot.at5 rfl hlt
        simp only [Tr.kids] at a0 a1 a2 a3 a4
        have hko := HT.out.get (i := i) hlt
        simp only [Tr.kids] at hko
        have hk0 := kid_right HR0.out (x := ks[i]) (List.getElem_mem hlt)
        obtain ⟨x', hx'⟩ : ∃ x', ks[i] = x' := ⟨_, rfl⟩
        have HXK := hidd hx'
        rw [hx'] at a0 a1 a2 a3 a4 hko hk0
        obtain ⟨nk, ⟨kk, dk, ek, vk, ksk⟩⟩ := x'
        obtain ⟨sa, sc, hkv⟩ := hko.shape
        simp only [Tr.kind, Tr.data, Tr.exec, Tr.v, Tr.kids] at a0 a1 a2 a3 a4 hkv
        subst hkv
        have hI1 := hI.alloc (.cells #[.string nk, .string kk, .string dk, .bool ek, .slice sa ksk.length sc] 58)
        have hn1 := Blk.new wr [.string nk, .string kk, .string dk, .bool ek, .slice sa ksk.length sc] 58
        have p1 : (0 : Int) ≤ (i : Int) := by omega
        have p2 : (i : Int) < (ks.length : Int) := by omega
        have HKO := hidd hko
        have hkn := HT.out.names (ks[i]) (List.getElem_mem hlt)
        rw [hx'] at hkn
        simp only at hkn
        have HKI : Hid (∀ F : Nat → Prop, (Tr.mk kDir da ex' (.slice (some ⟨g, off, none⟩) ks.length cap) ks : Lt).In F → (Tr.mk kk dk ek (.slice sa ksk.length sc) ksk : Lt).In F) := hidd (fun F h => by have := h.get (i := i) hlt; simp only [Tr.kids] at this; rw [hx'] at this; exact this)
        have HK0 := hidd hk0
        clear hx' hko hk0
        go_upto_region 11 with fail
        clear x0 x1 x2 x3 k0 a0 a1 a2 a3 a4 hI
        have hzr : w.heap.size + 3 ≤ wr.heap.size := hzr0
        have HVB0 := hidd hvb0
        clear hvb0
        obtain ⟨kb, hkb⟩ : ∃ kb, wr.heap.size = kb := ⟨_, rfl⟩
        have HVB : Hid (∀ b, (Value.slice va ls.length vc).ownBlock = some b → b < kb) := hidd (fun b hb => by have := (HVB0.out b hb).2; omega)
        clear HVB0
        rw [hkb] at hn1 ⊢
        generalize wr.alloc (.cells #[.string nk, .string kk, .string dk, .bool ek, .slice sa ksk.length sc] 58) = w1 at *
        obtain ⟨x0, x1, x2, x3, k0⟩ := hI1.k.c
        have b0 := hn1.cell (i := 0) rfl
        cases done with
        | true =>
          go_quiet (fail)
          have hI2 := hI1.later (Below.drewN _ w1 nq)
          have hn2 := hn1.drewN nq
          clear b0 x0 x1 x2 x3 k0 hI1 hn1
          generalize w1.drewN nq = w2 at *
          have b0 := hn2.cell (i := 0) rfl
          have b1 := hn2.cell (i := 1) rfl
          have b2 := hn2.cell (i := 2) rfl
          have b3 := hn2.cell (i := 3) rfl
          have b4 := hn2.cell (i := 4) rfl
          have HST : Hid (R = some (.mk kDir da ex' () ((ls ++ [((nk, .mk kk dk ek (.slice sa ksk.length sc) ksk) : ByteArray × Lt)] ++ ks.drop (i + 1)).map fun x => (x.1, x.2.bare)))) := hidd (by
            rcases hI2.st with ⟨h, -⟩ | ⟨-, h⟩
            · cases h
            · simp only [Tr.kind, Tr.data, Tr.exec, Tr.kids] at h
              rw [List.append_assoc, List.singleton_append, ← HXK.out, List.getElem_cons_drop]
              exact h)
          have HI2 := hidd hI2
          clear hI2
          have hs1 := Src.new (P := Tryz.prog) (size := 5) (tx := 22) Tryz.underlying22 w2 w2.heap.size rfl [.string nk, .string kk, .string dk, .bool ek, .slice sa ksk.length sc] 58 rfl (by intro u hu; simp only [List.mem_cons, List.not_mem_nil, or_false] at hu; rcases hu with rfl | rfl | rfl | rfl | rfl <;> rfl) 1
          have ho2 := HI2.out.ow
          have hlen2 := HI2.out.len
          go_wp2_with (at_builtin; refine wpList_append_ow _ rfl _ _ 22 22 rfl (fun g => w2.heap.size ≤ g ∨ (Value.slice va ls.length vc).ownBlock = some g) ?cF 58 i0 _ 5 80 Tryz.underlying22 hii hz0 hz1 hz2 rfl (by decide) _ _ _ rfl ((ho2.self.mono (fun g hg => .inr hg)).alloc _) _ _ _ rfl hs1 ?c3 ?c4 ?_)
          case cF => intro g hg; (try simp at hg); exact .inl (by omega)
          case c3 => unfold maxLen; omega
          case c4 => omega
          intro v3 w4 ho4 hg4
          have hF : Fr (fun b => (Value.slice va ls.length vc).ownBlock = some b) w2 w4 := ((Fr.refl _ w2).alloc _).grown hg4 (fun b hb => .inl hb)
          have HI4 := hidd (HI2.out.app (kid := (nk, .mk kk dk ek (.slice sa ksk.length sc) ksk)) (done' := true) (i' := i + 1) hF ho4 (HKO.out.ob HI2.out.k.below) (HI2.out.elder HKO.out) (fun F h1 _ => in_mono (fun b hb => .inl hb) _ (HKI.out F h1)) hkn hlt (by omega) (.inr ⟨rfl, HST.out⟩))
          clear ho4 hg4 hs1 hF ho2 b0 b1 b2 b3 b4 hn2
          go_wp2_with fail
          go_roundw
          case rel => exact ⟨true, i + 1, _, rfl, by go_num, HI4.out⟩
          case measure => simp [intOf]; omega
        | false =>
          by_cases hc : cmpB nk n < 0
          · have q1 : Op.bytesLess nk.toList n.toList = true := by rw [less_cmp]; exact decide_eq_true hc
            go_quiet (fail)
            have hI2 := hI1.later (Below.drewN _ w1 nq)
            have hn2 := hn1.drewN nq
            clear b0 x0 x1 x2 x3 k0 hI1 hn1
            generalize w1.drewN nq = w2 at *
            have b0 := hn2.cell (i := 0) rfl
            have b1 := hn2.cell (i := 1) rfl
            have b2 := hn2.cell (i := 2) rfl
            have b3 := hn2.cell (i := 3) rfl
            have b4 := hn2.cell (i := 4) rfl
            have HST : Hid (ls ++ [((nk, .mk kk dk ek (.slice sa ksk.length sc) ksk) : ByteArray × Lt)] = ks.take (i + 1) ∧ ∀ j (h : j < ks.length), j < i + 1 → cmpB ks[j].1 n < 0) := hidd (by
              rcases hI2.st with ⟨-, h, hj⟩ | ⟨h, -⟩
              · simp only [Tr.kids] at h hj
                refine ⟨by rw [h, List.take_succ_eq_append_getElem hlt, HXK.out], fun j hjl hji => ?_⟩
                by_cases e : j = i
                · subst e; rw [HXK.out]; exact hc
                · exact hj j hjl (by omega)
              · cases h)
            have HI2 := hidd hI2
            clear hI2 hc
            have hs1 := Src.new (P := Tryz.prog) (size := 5) (tx := 22) Tryz.underlying22 w2 w2.heap.size rfl [.string nk, .string kk, .string dk, .bool ek, .slice sa ksk.length sc] 58 rfl (by intro u hu; simp only [List.mem_cons, List.not_mem_nil, or_false] at hu; rcases hu with rfl | rfl | rfl | rfl | rfl <;> rfl) 1
            have ho2 := HI2.out.ow
            have hlen2 := HI2.out.len
            go_wp2_with (at_builtin; refine wpList_append_ow _ rfl _ _ 22 22 rfl (fun g => w2.heap.size ≤ g ∨ (Value.slice va ls.length vc).ownBlock = some g) ?cF 58 i0 _ 5 80 Tryz.underlying22 hii hz0 hz1 hz2 rfl (by decide) _ _ _ rfl ((ho2.self.mono (fun g hg => .inr hg)).alloc _) _ _ _ rfl hs1 ?c3 ?c4 ?_)
            case cF => intro g hg; (try simp at hg); exact .inl (by omega)
            case c3 => unfold maxLen; omega
            case c4 => omega
            intro v3 w4 ho4 hg4
            have hF : Fr (fun b => (Value.slice va ls.length vc).ownBlock = some b) w2 w4 := ((Fr.refl _ w2).alloc _).grown hg4 (fun b hb => .inl hb)
            have HI4 := hidd (HI2.out.app (kid := (nk, .mk kk dk ek (.slice sa ksk.length sc) ksk)) (done' := false) (i' := i + 1) hF ho4 (HKO.out.ob HI2.out.k.below) (HI2.out.elder HKO.out) (fun F h1 _ => in_mono (fun b hb => .inl hb) _ (HKI.out F h1)) hkn hlt (by omega) (.inl ⟨rfl, HST.out⟩))
            clear ho4 hg4 hs1 hF ho2 b0 b1 b2 b3 b4 hn2
            go_wp2_with fail
            go_roundw
            case rel => exact ⟨false, i + 1, _, rfl, by go_num, HI4.out⟩
            case measure => simp [intOf]; omega
          · have q1 : Op.bytesLess nk.toList n.toList = false := by rw [less_cmp]; exact decide_eq_false hc
            have HLT : Hid (ls = ks.take i ∧ ∀ j (h : j < ks.length), j < i → cmpB ks[j].1 n < 0) := hidd (by
              rcases hI1.st with ⟨-, h⟩ | ⟨h, -⟩
              · exact h
              · cases h)
            have HKB : Hid (w.heap.size + 3 ≤ kb) := hidd (by rw [← hkb]; exact hzr)
            have HLL : Hid (ls.length = i) := hidd (by rw [HLT.out.1, List.length_take]; omega)
            have hrr : rising (ks.map (·.1)) = true := right_rising HR0.out
            have HFN : Hid (∀ f, (f = true ↔ nk = n) → FndK ks n i f) := hidd (fun f hf => fnd_at (ks := ks) hrr HLT.out.2 (by omega) (fun h => by rw [HXK.out]; exact Int.not_lt.1 hc) (by
              rw [hf]
              constructor
              · exact fun e => ⟨hlt, by rw [HXK.out]; exact e⟩
              · rintro ⟨_, e⟩
                rw [HXK.out] at e
                exact e))
            clear hrr
            clear hc
            go_quiet (fail)
            have hI2 := hI1.later (Below.drewN _ w1 nq)
            have hn2 := hn1.drewN nq
            clear b0 x0 x1 x2 x3 k0 hI1 hn1
            generalize w1.drewN nq = w2 at *
            obtain ⟨x0, x1, x2, x3, k0⟩ := hI2.k.c
            have b0 := hn2.cell (i := 0) rfl
            have b1 := hn2.cell (i := 1) rfl
            have b2 := hn2.cell (i := 2) rfl
            have b3 := hn2.cell (i := 3) rfl
            have b4 := hn2.cell (i := 4) rfl
            by_cases hnn : nk = n
            · obtain rfl : n = nk := hnn.symm
              have q2 : (n.toList == n.toList) = true := by simp
              have HF := hidd (HFN.out true ⟨fun _ => rfl, fun _ => rfl⟩)
              clear HFN
              go_upto_region 13 with fail
              go_quiet (fail)
              have hI3 := hI2.later (Below.drewN _ w2 nq)
              have hn3 := hn2.drewN nq
              clear b0 b1 b2 b3 b4 x0 x1 x2 x3 k0 hI2 hn2
              generalize w2.drewN nq = w3 at *
              have b0 := hn3.cell (i := 0) rfl
              have p3 : (1 : Int) ≤ (r.length : Int) + 1 := by omega
              by_cases hrd : r = [] ∧ drop = true
              · obtain ⟨hr, rfl⟩ := hrd
                have q14 : ((r.length : Int) + 1 == 1) = true := by rw [hr]; rfl
                have HOUT : Hid (R = some (.mk kDir da ex' () ((ls ++ ks.drop (i + 1)).map fun x => (x.1, x.2.bare)))) := hidd (by rw [← HR.out, HLT.out.1, hr]; exact set_out HF.out)
                have HI4 := hidd (hI3.move (done' := true) (i' := i + 1) hlt (by omega) (.inr ⟨rfl, HOUT.out⟩))
                clear hr hI3 hn3
                go_wp2_with fail
                go_roundw
                case rel => exact ⟨true, i + 1, ls, rfl, by go_num, HI4.out⟩
                case measure => simp [intOf]; omega
              · have hdr : drop = true → r ≠ [] := fun e h => hrd ⟨h, e⟩
                obtain ⟨hk', hkn', hst⟩ := set_hit (X := Tr.bare (.mk kx dx ex (.slice xa ksx.length xc) ksx)) (da := da) (ex := ex') (v := .slice (some ⟨g, off, none⟩) ks.length cap) HF.out hrd
                rw [HXK.out] at hst
                simp only at hst
                rw [HR.out] at hst
                have HST := hidd hst
                have hJ3 : SoJ w (.mk kDir da ex' (.slice (some ⟨g, off, none⟩) ks.length cap) ks) (.mk kx dx ex (.slice xa ksx.length xc) ksx) (.slice (some ⟨lb, lo, none⟩) (n :: r).length lc) (n :: r) kb [.string n, .string kk, .string dk, .bool ek, .slice sa ksk.length sc] w3 := ⟨hI3.k, hn3, HKB.out⟩
                have HIH := hidd (fun W (h : SoJ w (.mk kDir da ex' (.slice (some ⟨g, off, none⟩) ks.length cap) ks) (.mk kx dx ex (.slice xa ksx.length xc) ksx) (.slice (some ⟨lb, lo, none⟩) (n :: r).length lc) (n :: r) kb [.string n, .string kk, .string dk, .bool ek, .slice sa ksk.length sc] W) => ih (.mk kk dk ek (.slice sa ksk.length sc) ksk) (.mk kx dx ex (.slice xa ksx.length xc) ksx) _ W hdr (HKO.out.ob h.k.below) h.k.ox HK0.out (sl_tail h.k.hl) (fun m hm => hnz m (List.mem_cons_of_mem _ hm)))
                have HKC : Hid (∀ W, SoJ w (.mk kDir da ex' (.slice (some ⟨g, off, none⟩) ks.length cap) ks) (.mk kx dx ex (.slice xa ksx.length xc) ksx) (.slice (some ⟨lb, lo, none⟩) (n :: r).length lc) (n :: r) kb [.string n, .string kk, .string dk, .bool ek, .slice sa ksk.length sc] W →
                    (W.cell? ⟨w.heap.size + 1, 0, none⟩ = some (.string kx) ∧ W.cell? ⟨w.heap.size + 1, 1, none⟩ = some (.string dx) ∧ W.cell? ⟨w.heap.size + 1, 2, none⟩ = some (.bool ex) ∧ W.cell? ⟨w.heap.size + 1, 3, none⟩ = some (.slice xa ksx.length xc)) ∧
                    W.cell? ⟨kb, 1, none⟩ = some (.string kk) ∧ W.cell? ⟨kb, 2, none⟩ = some (.string dk) ∧ W.cell? ⟨kb, 3, none⟩ = some (.bool ek) ∧ W.cell? ⟨kb, 4, none⟩ = some (.slice sa ksk.length sc)) := hidd (fun W h =>
                  ⟨h.k.d.2.2, h.b.cell (i := 1) rfl, h.b.cell (i := 2) rfl, h.b.cell (i := 3) rfl, h.b.cell (i := 4) rfl⟩)
                unfold nval at HIH
                simp only [Tr.kind, Tr.data, Tr.exec, Tr.v] at HIH
                generalize hA2 : (if lc = 1 then some (⟨lb, lo, none⟩ : Addr) else some ⟨lb, lo + 1, none⟩) = A2 at HIH
                have HJ3 := hidd hJ3
                have hJd := hJ3.drew
                have HI3 := hidd hI3
                have hz3 : kb < w3.heap.size := hn3.lt
                have hzw : w.heap.size + 2 < w3.heap.size := hI3.k.bz.lt
                have hkb3 : w.heap.size + 3 ≤ kb := HKB.out
                have hq : ((r.length : Int) + 1 == 1) = false ∨ (((r.length : Int) + 1 == 1) = true ∧ drop = false) := by
                  by_cases hr : r = []
                  · right
                    refine ⟨by rw [hr]; rfl, ?_⟩
                    cases hd : drop with
                    | false => rfl
                    | true => exact absurd ⟨hr, hd⟩ hrd
                  · left
                    have := List.length_pos_iff.2 hr
                    simp; omega
                clear hst hJ3 hn3 hI3 hdr hrd ih
                rcases hq with hq | ⟨hq, hqd⟩
                rotate_left
                · subst hqd
                  go_upto_region 15 with fail
                  (go_region_held3 (fun W => (W.cell? ⟨w.heap.size + 1, 0, none⟩ = some (.string kx) ∧ W.cell? ⟨w.heap.size + 1, 1, none⟩ = some (.string dx) ∧ W.cell? ⟨w.heap.size + 1, 2, none⟩ = some (.bool ex) ∧ W.cell? ⟨w.heap.size + 1, 3, none⟩ = some (.slice xa ksx.length xc)) ∧
                        W.cell? ⟨kb, 1, none⟩ = some (.string kk) ∧ W.cell? ⟨kb, 2, none⟩ = some (.string dk) ∧ W.cell? ⟨kb, 3, none⟩ = some (.bool ek) ∧ W.cell? ⟨kb, 4, none⟩ = some (.slice sa ksk.length sc))
                    (first | exact HKC.out _ (by assumption) | exact HKC.out _ (SoJ.alloc (by assumption) _) | exact HKC.out _ ((HJ3.out.alloc _).drew) | exact HKC.out _ (SoJ.four (by assumption) (by omega) (by omega) _ _ _ _))
                    (first
                      | (go_at_call 82; (with_reducible refine (HIH.out _ hJd).mono ?_); intro e w5 hyy; obtain ⟨ky, dy, ey, ya, yc, ksy, b5, he5, hy5, hi5, hb5, hm5⟩ := hyy.parts; subst he5; have hJ5 := hJd.later hb5)
                      | (go_at_call 82; (with_reducible refine (HIH.out _ (HJ3.out.alloc _).drew).mono ?_); intro e w5 hyy; obtain ⟨ky, dy, ey, ya, yc, ksy, b5, he5, hy5, hi5, hb5, hm5⟩ := hyy.parts; subst he5; have hJ5 := (HJ3.out.alloc _).drew.later hb5; have hn5 := (Blk.new w3 [.string ⟨#[]⟩, .string ⟨#[]⟩, .bool false, .slice none 0 0] 24).drew.below hb5 (by simp); have z0 := hn5.cell (i := 0) rfl; have z1 := hn5.cell (i := 1) rfl; have z2 := hn5.cell (i := 2) rfl; have z3 := hn5.cell (i := 3) rfl; have f0 := hn5.frozen 0; have f1 := hn5.frozen 1; have f2 := hn5.frozen 2; have f3 := hn5.frozen 3)))
                  all_goals
                    have hkin : (Tr.mk kk dk ek (.slice sa ksk.length sc) ksk : Lt).In (fun b => b < w.heap.size) := ok_in _ HKO.out
                    have hyi := hi5.out _ hkin (ok_in _ HX.out)
                  rotate_left
                  · have hfr := (Fr.refl (fun b => b = w3.heap.size) w5).four (p := w3.heap.size) (.inl rfl) (.string ky) (.string dy) (.bool ey) (.slice ya ksy.length yc)
                    have hN6 := hn5.four (x0 := .string ky) (x1 := .string dy) (x2 := .bool ey) (x3 := .slice ya ksy.length yc)
                    have hY6 := ok_fr hfr _ hy5.out (in_mono (fun b hb e => by simp at hb; omega) _ hyi)
                    have hyi6 : (Tr.mk ky dy ey (.slice ya ksy.length yc) ksy : Lt).In (fun b => b < w.heap.size ∨ w3.heap.size ≤ b) := in_mono (fun b hb => by simp at hb; omega) _ hyi
                    have hiF6 : Hid (∀ F : Nat → Prop, (Tr.mk kk dk ek (.slice sa ksk.length sc) ksk : Lt).In F → (Tr.mk kx dx ex (.slice xa ksx.length xc) ksx : Lt).In F → (Tr.mk ky dy ey (.slice ya ksy.length yc) ksy : Lt).In (fun b => F b ∨ w.heap.size + 3 ≤ b)) := hidd (fun F h1 h2 => in_mono (fun b hb => by
                      rcases hb with h | h
                      · exact .inl h
                      · exact .inr (by simp at h; omega)) _ (hi5.out F h1 h2))
                    have hz35 : w3.heap.size ≤ w5.heap.size := by have := hb5.size; simp at this; omega
                    have hB36 := ((((Below.refl w3.heap.size w3).alloc (Nat.le_refl _) (.cells #[.string ⟨#[]⟩, .string ⟨#[]⟩, .bool false, .slice none 0 0] 24)).drew).trans (hb5.mono (by simp))).trans (hfr.below hz35 (fun b e => by omega))
                    clear z0 z1 z2 z3 f0 f1 f2 f3 hn5 hJ5 hfr hyi hkin hi5 hy5 hb5
                    generalize ((((w5.setCell ⟨w3.heap.size, 0, none⟩ (.string ky)).setCell ⟨w3.heap.size, 1, none⟩ (.string dy)).setCell ⟨w3.heap.size, 2, none⟩ (.bool ey)).setCell ⟨w3.heap.size, 3, none⟩ (.slice ya ksy.length yc)) = w6 at *
                    generalize hNN : w3.heap.size = N at hN6 ⊢
                    have hI6 := HI3.out.later hB36
                    have hkb6 := HJ3.out.b.below hB36 HJ3.out.b.lt
                    have HYY := hidd (HI3.out.young hY6 hB36 hyi6)
                    have HY6 := hidd hY6
                    have HI6 := hidd hI6
                    clear hNN hA2 HIH HKC hJd hB36 hyi6 hY6 hI6 hz35 b0 HI3 HJ3 hq
                    cases b5
                    · have HRN : Hid (R = none) := hidd (by
                        have hm := hm5.out
                        rw [HST.out]
                        revert hm
                        cases setT _ _ r _ with
                        | none => intro _; rfl
                        | some Y => intro hm; cases hm.1)
                      have HK6 := hidd HI6.out.k
                      clear hN6 hkb6 HI6 HST
                      have hKr := HK6.out
                      obtain ⟨x0, x1, x2, x3, -⟩ := hKr.c
                      have f0 := hKr.bz.frozen 0
                      have f1 := hKr.bz.frozen 1
                      have f2 := hKr.bz.frozen 2
                      have f3 := hKr.bz.frozen 3
                      have y0 := hKr.bz.cell (i := 0) rfl
                      have y1 := hKr.bz.cell (i := 1) rfl
                      have y2 := hKr.bz.cell (i := 2) rfl
                      have y3 := hKr.bz.cell (i := 3) rfl
                      have s4 := hKr.bz.four (x0 := .string kDir) (x1 := .string da) (x2 := .bool ex') (x3 := .slice (some ⟨g, off, none⟩) ks.length cap)
                      have r0 := s4.cell (i := 0) rfl
                      have r1 := s4.cell (i := 1) rfl
                      have r2 := s4.cell (i := 2) rfl
                      have r3 := s4.cell (i := 3) rfl
                      have HBF := hidd (hKr.below.trans (((Fr.refl (fun b => b = w.heap.size + 2) _).four (p := w.heap.size + 2) (.inl rfl) (.string kDir) (.string da) (.bool ex') (.slice (some ⟨g, off, none⟩) ks.length cap)).below hKr.below.size (fun b e => by omega)))
                      clear hKr s4
                      go_wp2_with fail
                      refine bodyPost_ret (v := .tuple #[.agg #[.string kDir, .string da, .bool ex', .slice (some ⟨g, off, none⟩) ks.length cap], .bool false]) ?_ rfl ?_
                      · rw [results_cell_tmp rfl]
                        go_simp
                      · exact ⟨_, false, rfl, HT.out.ob HBF.out, fun F h1 h2 => in_mono (fun b hb => .inl hb) _ h1, HBF.out, by rw [HR.out, HRN.out]⟩
                    · have HST2 : Hid (R = some (.mk kDir da ex' () ((ls ++ [((n, .mk ky dy ey (.slice ya ksy.length yc) ksy) : ByteArray × Lt)] ++ ks.drop (i + 1)).map fun x => (x.1, x.2.bare)))) := hidd (by
                        have hm := hm5.out
                        rw [HST.out, HLT.out.1]
                        revert hm
                        cases setT _ _ r _ with
                        | none => intro hm; cases hm
                        | some Y =>
                          intro hm
                          rw [← hm.2]
                          simp)
                      have b0 := hkb6.cell (i := 0) rfl
                      have n0 := hN6.cell (i := 0) rfl
                      have n1 := hN6.cell (i := 1) rfl
                      have n2 := hN6.cell (i := 2) rfl
                      have n3 := hN6.cell (i := 3) rfl
                      have hs1 := Src.new (P := Tryz.prog) (size := 5) (tx := 22) Tryz.underlying22 w6 w6.heap.size rfl [.string n, .string ky, .string dy, .bool ey, .slice ya ksy.length yc] 58 rfl (by intro u hu; simp only [List.mem_cons, List.not_mem_nil, or_false] at hu; rcases hu with rfl | rfl | rfl | rfl | rfl <;> rfl) 1
                      have ho2 := HI6.out.ow
                      have hlen2 := HI6.out.len
                      go_wp2_with (at_builtin; refine wpList_append_ow _ rfl _ _ 22 22 rfl (fun g => w6.heap.size ≤ g ∨ (Value.slice va ls.length vc).ownBlock = some g) ?cF 58 i0 _ 5 80 Tryz.underlying22 hii hz0 hz1 hz2 rfl (by decide) _ _ _ rfl ((ho2.self.mono (fun g hg => .inr hg)).alloc _) _ _ _ rfl hs1 ?c3 ?c4 ?_)
                      case cF => intro g hg; (try simp at hg); exact .inl (by omega)
                      case c3 => unfold maxLen; omega
                      case c4 => omega
                      intro v3 w4 ho4 hg4
                      have hF : Fr (fun b => (Value.slice va ls.length vc).ownBlock = some b) w6 w4 := ((Fr.refl _ w6).alloc _).grown hg4 (fun b hb => .inl hb)
                      have HI4 := hidd (HI6.out.app (kid := (n, .mk ky dy ey (.slice ya ksy.length yc) ksy)) (done' := true) (i' := i + 1) hF ho4 HY6.out HYY.out (fun F h1 h2 => hiF6.out F (HKI.out F h1) h2) hkn hlt (by omega) (.inr ⟨rfl, HST2.out⟩))
                      clear ho4 hg4 hs1 hF ho2 b0 n0 n1 n2 n3 hN6 hkb6
                      go_wp2_with fail
                      go_roundw
                      case rel => exact ⟨true, i + 1, _, rfl, by go_num, HI4.out⟩
                      case measure => simp [intOf]; omega
                  · have hN6 := Blk.new w5 [.string ky, .string dy, .bool ey, .slice ya ksy.length yc] 24
                    have hY6 := hy5.out.alloc (.cells #[.string ky, .string dy, .bool ey, .slice ya ksy.length yc] 24)
                    have hyi6 : (Tr.mk ky dy ey (.slice ya ksy.length yc) ksy : Lt).In (fun b => b < w.heap.size ∨ w3.heap.size ≤ b) := hyi
                    have hiF6 : Hid (∀ F : Nat → Prop, (Tr.mk kk dk ek (.slice sa ksk.length sc) ksk : Lt).In F → (Tr.mk kx dx ex (.slice xa ksx.length xc) ksx : Lt).In F → (Tr.mk ky dy ey (.slice ya ksy.length yc) ksy : Lt).In (fun b => F b ∨ w.heap.size + 3 ≤ b)) := hidd (fun F h1 h2 => in_mono (fun b hb => by
                      rcases hb with h | h
                      · exact .inl h
                      · exact .inr (by have h' : w3.heap.size ≤ b := h; omega)) _ (hi5.out F h1 h2))
                    have hz35 : w3.heap.size ≤ w5.heap.size := hb5.size
                    have hB36 : Below w3.heap.size w3 (w5.alloc (.cells #[.string ky, .string dy, .bool ey, .slice ya ksy.length yc] 24)) := (((Below.refl w3.heap.size w3).drew).trans hb5).alloc hz35 _
                    clear hJ5 hyi hkin hi5 hy5 hb5
                    generalize w5.alloc (.cells #[.string ky, .string dy, .bool ey, .slice ya ksy.length yc] 24) = w6 at *
                    generalize hNN : w5.heap.size = N at hN6 ⊢
                    have hI6 := HI3.out.later hB36
                    have hkb6 := HJ3.out.b.below hB36 HJ3.out.b.lt
                    have HYY := hidd (HI3.out.young hY6 hB36 hyi6)
                    have HY6 := hidd hY6
                    have HI6 := hidd hI6
                    clear hNN hA2 HIH HKC hJd hB36 hyi6 hY6 hI6 hz35 b0 HI3 HJ3 hq
                    cases b5
                    · have HRN : Hid (R = none) := hidd (by
                        have hm := hm5.out
                        rw [HST.out]
                        revert hm
                        cases setT _ _ r _ with
                        | none => intro _; rfl
                        | some Y => intro hm; cases hm.1)
                      have HK6 := hidd HI6.out.k
                      clear hN6 hkb6 HI6 HST
                      have hKr := HK6.out
                      obtain ⟨x0, x1, x2, x3, -⟩ := hKr.c
                      have f0 := hKr.bz.frozen 0
                      have f1 := hKr.bz.frozen 1
                      have f2 := hKr.bz.frozen 2
                      have f3 := hKr.bz.frozen 3
                      have y0 := hKr.bz.cell (i := 0) rfl
                      have y1 := hKr.bz.cell (i := 1) rfl
                      have y2 := hKr.bz.cell (i := 2) rfl
                      have y3 := hKr.bz.cell (i := 3) rfl
                      have s4 := hKr.bz.four (x0 := .string kDir) (x1 := .string da) (x2 := .bool ex') (x3 := .slice (some ⟨g, off, none⟩) ks.length cap)
                      have r0 := s4.cell (i := 0) rfl
                      have r1 := s4.cell (i := 1) rfl
                      have r2 := s4.cell (i := 2) rfl
                      have r3 := s4.cell (i := 3) rfl
                      have HBF := hidd (hKr.below.trans (((Fr.refl (fun b => b = w.heap.size + 2) _).four (p := w.heap.size + 2) (.inl rfl) (.string kDir) (.string da) (.bool ex') (.slice (some ⟨g, off, none⟩) ks.length cap)).below hKr.below.size (fun b e => by omega)))
                      clear hKr s4
                      go_wp2_with fail
                      refine bodyPost_ret (v := .tuple #[.agg #[.string kDir, .string da, .bool ex', .slice (some ⟨g, off, none⟩) ks.length cap], .bool false]) ?_ rfl ?_
                      · rw [results_cell_tmp rfl]
                        go_simp
                      · exact ⟨_, false, rfl, HT.out.ob HBF.out, fun F h1 h2 => in_mono (fun b hb => .inl hb) _ h1, HBF.out, by rw [HR.out, HRN.out]⟩
                    · have HST2 : Hid (R = some (.mk kDir da ex' () ((ls ++ [((n, .mk ky dy ey (.slice ya ksy.length yc) ksy) : ByteArray × Lt)] ++ ks.drop (i + 1)).map fun x => (x.1, x.2.bare)))) := hidd (by
                        have hm := hm5.out
                        rw [HST.out, HLT.out.1]
                        revert hm
                        cases setT _ _ r _ with
                        | none => intro hm; cases hm
                        | some Y =>
                          intro hm
                          rw [← hm.2]
                          simp)
                      have b0 := hkb6.cell (i := 0) rfl
                      have n0 := hN6.cell (i := 0) rfl
                      have n1 := hN6.cell (i := 1) rfl
                      have n2 := hN6.cell (i := 2) rfl
                      have n3 := hN6.cell (i := 3) rfl
                      have hs1 := Src.new (P := Tryz.prog) (size := 5) (tx := 22) Tryz.underlying22 w6 w6.heap.size rfl [.string n, .string ky, .string dy, .bool ey, .slice ya ksy.length yc] 58 rfl (by intro u hu; simp only [List.mem_cons, List.not_mem_nil, or_false] at hu; rcases hu with rfl | rfl | rfl | rfl | rfl <;> rfl) 1
                      have ho2 := HI6.out.ow
                      have hlen2 := HI6.out.len
                      go_wp2_with (at_builtin; refine wpList_append_ow _ rfl _ _ 22 22 rfl (fun g => w6.heap.size ≤ g ∨ (Value.slice va ls.length vc).ownBlock = some g) ?cF 58 i0 _ 5 80 Tryz.underlying22 hii hz0 hz1 hz2 rfl (by decide) _ _ _ rfl ((ho2.self.mono (fun g hg => .inr hg)).alloc _) _ _ _ rfl hs1 ?c3 ?c4 ?_)
                      case cF => intro g hg; (try simp at hg); exact .inl (by omega)
                      case c3 => unfold maxLen; omega
                      case c4 => omega
                      intro v3 w4 ho4 hg4
                      have hF : Fr (fun b => (Value.slice va ls.length vc).ownBlock = some b) w6 w4 := ((Fr.refl _ w6).alloc _).grown hg4 (fun b hb => .inl hb)
                      have HI4 := hidd (HI6.out.app (kid := (n, .mk ky dy ey (.slice ya ksy.length yc) ksy)) (done' := true) (i' := i + 1) hF ho4 HY6.out HYY.out (fun F h1 h2 => hiF6.out F (HKI.out F h1) h2) hkn hlt (by omega) (.inr ⟨rfl, HST2.out⟩))
                      clear ho4 hg4 hs1 hF ho2 b0 n0 n1 n2 n3 hN6 hkb6
                      go_wp2_with fail
                      go_roundw
                      case rel => exact ⟨true, i + 1, _, rfl, by go_num, HI4.out⟩
                      case measure => simp [intOf]; omega
                go_upto_region 15 with fail
                (go_region_held3 (fun W => (W.cell? ⟨w.heap.size + 1, 0, none⟩ = some (.string kx) ∧ W.cell? ⟨w.heap.size + 1, 1, none⟩ = some (.string dx) ∧ W.cell? ⟨w.heap.size + 1, 2, none⟩ = some (.bool ex) ∧ W.cell? ⟨w.heap.size + 1, 3, none⟩ = some (.slice xa ksx.length xc)) ∧
                      W.cell? ⟨kb, 1, none⟩ = some (.string kk) ∧ W.cell? ⟨kb, 2, none⟩ = some (.string dk) ∧ W.cell? ⟨kb, 3, none⟩ = some (.bool ek) ∧ W.cell? ⟨kb, 4, none⟩ = some (.slice sa ksk.length sc))
                  (first | exact HKC.out _ (by assumption) | exact HKC.out _ (SoJ.alloc (by assumption) _) | exact HKC.out _ ((HJ3.out.alloc _).drew) | exact HKC.out _ (SoJ.four (by assumption) (by omega) (by omega) _ _ _ _))
                  (first
                    | (go_at_call 82; (with_reducible refine (HIH.out _ hJd).mono ?_); intro e w5 hyy; obtain ⟨ky, dy, ey, ya, yc, ksy, b5, he5, hy5, hi5, hb5, hm5⟩ := hyy.parts; subst he5; have hJ5 := hJd.later hb5)
                    | (go_at_call 82; (with_reducible refine (HIH.out _ (HJ3.out.alloc _).drew).mono ?_); intro e w5 hyy; obtain ⟨ky, dy, ey, ya, yc, ksy, b5, he5, hy5, hi5, hb5, hm5⟩ := hyy.parts; subst he5; have hJ5 := (HJ3.out.alloc _).drew.later hb5; have hn5 := (Blk.new w3 [.string ⟨#[]⟩, .string ⟨#[]⟩, .bool false, .slice none 0 0] 24).drew.below hb5 (by simp); have z0 := hn5.cell (i := 0) rfl; have z1 := hn5.cell (i := 1) rfl; have z2 := hn5.cell (i := 2) rfl; have z3 := hn5.cell (i := 3) rfl; have f0 := hn5.frozen 0; have f1 := hn5.frozen 1; have f2 := hn5.frozen 2; have f3 := hn5.frozen 3)))
                all_goals
                  have hkin : (Tr.mk kk dk ek (.slice sa ksk.length sc) ksk : Lt).In (fun b => b < w.heap.size) := ok_in _ HKO.out
                  have hyi := hi5.out _ hkin (ok_in _ HX.out)
                rotate_left
                · have hfr := (Fr.refl (fun b => b = w3.heap.size) w5).four (p := w3.heap.size) (.inl rfl) (.string ky) (.string dy) (.bool ey) (.slice ya ksy.length yc)
                  have hN6 := hn5.four (x0 := .string ky) (x1 := .string dy) (x2 := .bool ey) (x3 := .slice ya ksy.length yc)
                  have hY6 := ok_fr hfr _ hy5.out (in_mono (fun b hb e => by simp at hb; omega) _ hyi)
                  have hyi6 : (Tr.mk ky dy ey (.slice ya ksy.length yc) ksy : Lt).In (fun b => b < w.heap.size ∨ w3.heap.size ≤ b) := in_mono (fun b hb => by simp at hb; omega) _ hyi
                  have hiF6 : Hid (∀ F : Nat → Prop, (Tr.mk kk dk ek (.slice sa ksk.length sc) ksk : Lt).In F → (Tr.mk kx dx ex (.slice xa ksx.length xc) ksx : Lt).In F → (Tr.mk ky dy ey (.slice ya ksy.length yc) ksy : Lt).In (fun b => F b ∨ w.heap.size + 3 ≤ b)) := hidd (fun F h1 h2 => in_mono (fun b hb => by
                    rcases hb with h | h
                    · exact .inl h
                    · exact .inr (by simp at h; omega)) _ (hi5.out F h1 h2))
                  have hz35 : w3.heap.size ≤ w5.heap.size := by have := hb5.size; simp at this; omega
                  have hB36 := ((((Below.refl w3.heap.size w3).alloc (Nat.le_refl _) (.cells #[.string ⟨#[]⟩, .string ⟨#[]⟩, .bool false, .slice none 0 0] 24)).drew).trans (hb5.mono (by simp))).trans (hfr.below hz35 (fun b e => by omega))
                  clear z0 z1 z2 z3 f0 f1 f2 f3 hn5 hJ5 hfr hyi hkin hi5 hy5 hb5
                  generalize ((((w5.setCell ⟨w3.heap.size, 0, none⟩ (.string ky)).setCell ⟨w3.heap.size, 1, none⟩ (.string dy)).setCell ⟨w3.heap.size, 2, none⟩ (.bool ey)).setCell ⟨w3.heap.size, 3, none⟩ (.slice ya ksy.length yc)) = w6 at *
                  generalize hNN : w3.heap.size = N at hN6 ⊢
                  have hI6 := HI3.out.later hB36
                  have hkb6 := HJ3.out.b.below hB36 HJ3.out.b.lt
                  have HYY := hidd (HI3.out.young hY6 hB36 hyi6)
                  have HY6 := hidd hY6
                  have HI6 := hidd hI6
                  clear hNN hA2 HIH HKC hJd hB36 hyi6 hY6 hI6 hz35 b0 HI3 HJ3 hq
                  cases b5
                  · have HRN : Hid (R = none) := hidd (by
                      have hm := hm5.out
                      rw [HST.out]
                      revert hm
                      cases setT _ _ r _ with
                      | none => intro _; rfl
                      | some Y => intro hm; cases hm.1)
                    have HK6 := hidd HI6.out.k
                    clear hN6 hkb6 HI6 HST
                    have hKr := HK6.out
                    obtain ⟨x0, x1, x2, x3, -⟩ := hKr.c
                    have f0 := hKr.bz.frozen 0
                    have f1 := hKr.bz.frozen 1
                    have f2 := hKr.bz.frozen 2
                    have f3 := hKr.bz.frozen 3
                    have y0 := hKr.bz.cell (i := 0) rfl
                    have y1 := hKr.bz.cell (i := 1) rfl
                    have y2 := hKr.bz.cell (i := 2) rfl
                    have y3 := hKr.bz.cell (i := 3) rfl
                    have s4 := hKr.bz.four (x0 := .string kDir) (x1 := .string da) (x2 := .bool ex') (x3 := .slice (some ⟨g, off, none⟩) ks.length cap)
                    have r0 := s4.cell (i := 0) rfl
                    have r1 := s4.cell (i := 1) rfl
                    have r2 := s4.cell (i := 2) rfl
                    have r3 := s4.cell (i := 3) rfl
                    have HBF := hidd (hKr.below.trans (((Fr.refl (fun b => b = w.heap.size + 2) _).four (p := w.heap.size + 2) (.inl rfl) (.string kDir) (.string da) (.bool ex') (.slice (some ⟨g, off, none⟩) ks.length cap)).below hKr.below.size (fun b e => by omega)))
                    clear hKr s4
                    go_wp2_with fail
                    refine bodyPost_ret (v := .tuple #[.agg #[.string kDir, .string da, .bool ex', .slice (some ⟨g, off, none⟩) ks.length cap], .bool false]) ?_ rfl ?_
                    · rw [results_cell_tmp rfl]
                      go_simp
                    · exact ⟨_, false, rfl, HT.out.ob HBF.out, fun F h1 h2 => in_mono (fun b hb => .inl hb) _ h1, HBF.out, by rw [HR.out, HRN.out]⟩
                  · have HST2 : Hid (R = some (.mk kDir da ex' () ((ls ++ [((n, .mk ky dy ey (.slice ya ksy.length yc) ksy) : ByteArray × Lt)] ++ ks.drop (i + 1)).map fun x => (x.1, x.2.bare)))) := hidd (by
                      have hm := hm5.out
                      rw [HST.out, HLT.out.1]
                      revert hm
                      cases setT _ _ r _ with
                      | none => intro hm; cases hm
                      | some Y =>
                        intro hm
                        rw [← hm.2]
                        simp)
                    have b0 := hkb6.cell (i := 0) rfl
                    have n0 := hN6.cell (i := 0) rfl
                    have n1 := hN6.cell (i := 1) rfl
                    have n2 := hN6.cell (i := 2) rfl
                    have n3 := hN6.cell (i := 3) rfl
                    have hs1 := Src.new (P := Tryz.prog) (size := 5) (tx := 22) Tryz.underlying22 w6 w6.heap.size rfl [.string n, .string ky, .string dy, .bool ey, .slice ya ksy.length yc] 58 rfl (by intro u hu; simp only [List.mem_cons, List.not_mem_nil, or_false] at hu; rcases hu with rfl | rfl | rfl | rfl | rfl <;> rfl) 1
                    have ho2 := HI6.out.ow
                    have hlen2 := HI6.out.len
                    go_wp2_with (at_builtin; refine wpList_append_ow _ rfl _ _ 22 22 rfl (fun g => w6.heap.size ≤ g ∨ (Value.slice va ls.length vc).ownBlock = some g) ?cF 58 i0 _ 5 80 Tryz.underlying22 hii hz0 hz1 hz2 rfl (by decide) _ _ _ rfl ((ho2.self.mono (fun g hg => .inr hg)).alloc _) _ _ _ rfl hs1 ?c3 ?c4 ?_)
                    case cF => intro g hg; (try simp at hg); exact .inl (by omega)
                    case c3 => unfold maxLen; omega
                    case c4 => omega
                    intro v3 w4 ho4 hg4
                    have hF : Fr (fun b => (Value.slice va ls.length vc).ownBlock = some b) w6 w4 := ((Fr.refl _ w6).alloc _).grown hg4 (fun b hb => .inl hb)
                    have HI4 := hidd (HI6.out.app (kid := (n, .mk ky dy ey (.slice ya ksy.length yc) ksy)) (done' := true) (i' := i + 1) hF ho4 HY6.out HYY.out (fun F h1 h2 => hiF6.out F (HKI.out F h1) h2) hkn hlt (by omega) (.inr ⟨rfl, HST2.out⟩))
                    clear ho4 hg4 hs1 hF ho2 b0 n0 n1 n2 n3 hN6 hkb6
                    go_wp2_with fail
                    go_roundw
                    case rel => exact ⟨true, i + 1, _, rfl, by go_num, HI4.out⟩
                    case measure => simp [intOf]; omega
                · have hN6 := Blk.new w5 [.string ky, .string dy, .bool ey, .slice ya ksy.length yc] 24
                  have hY6 := hy5.out.alloc (.cells #[.string ky, .string dy, .bool ey, .slice ya ksy.length yc] 24)
                  have hyi6 : (Tr.mk ky dy ey (.slice ya ksy.length yc) ksy : Lt).In (fun b => b < w.heap.size ∨ w3.heap.size ≤ b) := hyi
                  have hiF6 : Hid (∀ F : Nat → Prop, (Tr.mk kk dk ek (.slice sa ksk.length sc) ksk : Lt).In F → (Tr.mk kx dx ex (.slice xa ksx.length xc) ksx : Lt).In F → (Tr.mk ky dy ey (.slice ya ksy.length yc) ksy : Lt).In (fun b => F b ∨ w.heap.size + 3 ≤ b)) := hidd (fun F h1 h2 => in_mono (fun b hb => by
                    rcases hb with h | h
                    · exact .inl h
                    · exact .inr (by have h' : w3.heap.size ≤ b := h; omega)) _ (hi5.out F h1 h2))
                  have hz35 : w3.heap.size ≤ w5.heap.size := hb5.size
                  have hB36 : Below w3.heap.size w3 (w5.alloc (.cells #[.string ky, .string dy, .bool ey, .slice ya ksy.length yc] 24)) := (((Below.refl w3.heap.size w3).drew).trans hb5).alloc hz35 _
                  clear hJ5 hyi hkin hi5 hy5 hb5
                  generalize w5.alloc (.cells #[.string ky, .string dy, .bool ey, .slice ya ksy.length yc] 24) = w6 at *
                  generalize hNN : w5.heap.size = N at hN6 ⊢
                  have hI6 := HI3.out.later hB36
                  have hkb6 := HJ3.out.b.below hB36 HJ3.out.b.lt
                  have HYY := hidd (HI3.out.young hY6 hB36 hyi6)
                  have HY6 := hidd hY6
                  have HI6 := hidd hI6
                  clear hNN hA2 HIH HKC hJd hB36 hyi6 hY6 hI6 hz35 b0 HI3 HJ3 hq
                  cases b5
                  · have HRN : Hid (R = none) := hidd (by
                      have hm := hm5.out
                      rw [HST.out]
                      revert hm
                      cases setT _ _ r _ with
                      | none => intro _; rfl
                      | some Y => intro hm; cases hm.1)
                    have HK6 := hidd HI6.out.k
                    clear hN6 hkb6 HI6 HST
                    have hKr := HK6.out
                    obtain ⟨x0, x1, x2, x3, -⟩ := hKr.c
                    have f0 := hKr.bz.frozen 0
                    have f1 := hKr.bz.frozen 1
                    have f2 := hKr.bz.frozen 2
                    have f3 := hKr.bz.frozen 3
                    have y0 := hKr.bz.cell (i := 0) rfl
                    have y1 := hKr.bz.cell (i := 1) rfl
                    have y2 := hKr.bz.cell (i := 2) rfl
                    have y3 := hKr.bz.cell (i := 3) rfl
                    have s4 := hKr.bz.four (x0 := .string kDir) (x1 := .string da) (x2 := .bool ex') (x3 := .slice (some ⟨g, off, none⟩) ks.length cap)
                    have r0 := s4.cell (i := 0) rfl
                    have r1 := s4.cell (i := 1) rfl
                    have r2 := s4.cell (i := 2) rfl
                    have r3 := s4.cell (i := 3) rfl
                    have HBF := hidd (hKr.below.trans (((Fr.refl (fun b => b = w.heap.size + 2) _).four (p := w.heap.size + 2) (.inl rfl) (.string kDir) (.string da) (.bool ex') (.slice (some ⟨g, off, none⟩) ks.length cap)).below hKr.below.size (fun b e => by omega)))
                    clear hKr s4
                    go_wp2_with fail
                    refine bodyPost_ret (v := .tuple #[.agg #[.string kDir, .string da, .bool ex', .slice (some ⟨g, off, none⟩) ks.length cap], .bool false]) ?_ rfl ?_
                    · rw [results_cell_tmp rfl]
                      go_simp
                    · exact ⟨_, false, rfl, HT.out.ob HBF.out, fun F h1 h2 => in_mono (fun b hb => .inl hb) _ h1, HBF.out, by rw [HR.out, HRN.out]⟩
                  · have HST2 : Hid (R = some (.mk kDir da ex' () ((ls ++ [((n, .mk ky dy ey (.slice ya ksy.length yc) ksy) : ByteArray × Lt)] ++ ks.drop (i + 1)).map fun x => (x.1, x.2.bare)))) := hidd (by
                      have hm := hm5.out
                      rw [HST.out, HLT.out.1]
                      revert hm
                      cases setT _ _ r _ with
                      | none => intro hm; cases hm
                      | some Y =>
                        intro hm
                        rw [← hm.2]
                        simp)
                    have b0 := hkb6.cell (i := 0) rfl
                    have n0 := hN6.cell (i := 0) rfl
                    have n1 := hN6.cell (i := 1) rfl
                    have n2 := hN6.cell (i := 2) rfl
                    have n3 := hN6.cell (i := 3) rfl
                    have hs1 := Src.new (P := Tryz.prog) (size := 5) (tx := 22) Tryz.underlying22 w6 w6.heap.size rfl [.string n, .string ky, .string dy, .bool ey, .slice ya ksy.length yc] 58 rfl (by intro u hu; simp only [List.mem_cons, List.not_mem_nil, or_false] at hu; rcases hu with rfl | rfl | rfl | rfl | rfl <;> rfl) 1
                    have ho2 := HI6.out.ow
                    have hlen2 := HI6.out.len
                    go_wp2_with (at_builtin; refine wpList_append_ow _ rfl _ _ 22 22 rfl (fun g => w6.heap.size ≤ g ∨ (Value.slice va ls.length vc).ownBlock = some g) ?cF 58 i0 _ 5 80 Tryz.underlying22 hii hz0 hz1 hz2 rfl (by decide) _ _ _ rfl ((ho2.self.mono (fun g hg => .inr hg)).alloc _) _ _ _ rfl hs1 ?c3 ?c4 ?_)
                    case cF => intro g hg; (try simp at hg); exact .inl (by omega)
                    case c3 => unfold maxLen; omega
                    case c4 => omega
                    intro v3 w4 ho4 hg4
                    have hF : Fr (fun b => (Value.slice va ls.length vc).ownBlock = some b) w6 w4 := ((Fr.refl _ w6).alloc _).grown hg4 (fun b hb => .inl hb)
                    have HI4 := hidd (HI6.out.app (kid := (n, .mk ky dy ey (.slice ya ksy.length yc) ksy)) (done' := true) (i' := i + 1) hF ho4 HY6.out HYY.out (fun F h1 h2 => hiF6.out F (HKI.out F h1) h2) hkn hlt (by omega) (.inr ⟨rfl, HST2.out⟩))
                    clear ho4 hg4 hs1 hF ho2 b0 n0 n1 n2 n3 hN6 hkb6
                    go_wp2_with fail
                    go_roundw
                    case rel => exact ⟨true, i + 1, _, rfl, by go_num, HI4.out⟩
                    case measure => simp [intOf]; omega
            · have q2 : (nk.toList == n.toList) = false := beq_str hnn
              have HF := hidd (HFN.out false ⟨(fun h => by cases h), fun h => absurd h hnn⟩)
              clear HFN hnn
              go_upto_region 13 with fail
              go_quiet (fail)
              have hI3 := hI2.later (Below.drewN _ w2 nq)
              have hn3 := hn2.drewN nq
              clear b0 b1 b2 b3 b4 x0 x1 x2 x3 k0 hI2 hn2
              generalize w2.drewN nq = w3 at *
              have HMS : Hid (R = if r = [] ∧ drop = false then some (.mk kDir da ex' () ((ks.take i).map (fun x => (x.1, x.2.bare)) ++ (n, Tr.bare (.mk kx dx ex (.slice xa ksx.length xc) ksx)) :: (ks.drop i).map fun x => (x.1, x.2.bare))) else none) := hidd (by rw [← HR.out]; exact set_miss (right_rising HR0.out) HF.out)
              have hkb3 : w.heap.size + 3 ≤ kb := HKB.out
              by_cases hrd : r = [] ∧ drop = false
              · obtain ⟨hr, rfl⟩ := hrd
                have q19 : decide ((1 : Int) < (r.length : Int) + 1) = false := by rw [hr]; rfl
                have HST7 : Hid (R = some (.mk kDir da ex' () ((ls ++ [((n, .mk kx dx ex (.slice xa ksx.length xc) ksx) : ByteArray × Lt)] ++ ks.drop i).map fun x => (x.1, x.2.bare)))) := hidd (by rw [HMS.out, if_pos ⟨hr, rfl⟩, HLT.out.1]; simp)
                obtain ⟨z0, z1, z2, z3, z4, z5⟩ := hI3.k.drew.d
                have HI3 := hidd hI3
                have HN3 := hidd hn3
                clear hr hI3 hn3 HMS
                go_upto_region 21 with fail
                have hs1 := Src.new (P := Tryz.prog) (size := 5) (tx := 22) Tryz.underlying22 w3.drew w3.heap.size rfl [.string n, .string kx, .string dx, .bool ex, .slice xa ksx.length xc] 58 rfl (by intro u hu; simp only [List.mem_cons, List.not_mem_nil, or_false] at hu; rcases hu with rfl | rfl | rfl | rfl | rfl <;> rfl) 1
                have ho2 := HI3.out.ow
                have hlen2 := HI3.out.len
                go_region_law (first
                  | (refine step_append_tr rfl (.tmp 85) (.tmp 91) 22 22 rfl (fun g => w3.heap.size ≤ g ∨ (Value.slice va ls.length vc).ownBlock = some g) (fun g hg => by (try simp at hg); exact .inl (by omega)) 58 i0 _ 5 80 Tryz.underlying22 hii hz0 hz1 hz2 rfl (by decide) _ _ _ (by simp [Act.eval]) ((ho2.self.mono (fun g hg => .inr hg)).drew.alloc _) _ _ _ (by simp [Act.eval]) hs1 (by unfold maxLen; omega) (by omega) ?_; intro v3 w4 ho4 hg4))
                all_goals
                  have hF : Fr (fun b => (Value.slice va ls.length vc).ownBlock = some b) w3 w4 := (((Fr.refl _ w3).drew).alloc _).grown hg4 (fun b hb => .inl hb)
                  have hI7 := HI3.out.app (kid := (n, .mk kx dx ex (.slice xa ksx.length xc) ksx)) (done' := true) (i' := i) hF ho4 (HX.out.ob HI3.out.k.below) (HI3.out.elder HX.out) (fun F _ h2 => in_mono (fun b hb => .inl hb) _ h2) (hnz n (List.mem_cons_self ..)) (by exact hiks) (by rw [HLL.out]; exact Nat.le_refl _) (.inr ⟨rfl, HST7.out⟩)
                  have hn7 := HN3.out.fr hF (fun e => by have := HVB.out kb e; omega)
                  have HL7 : Hid ((ls ++ [((n, .mk kx dx ex (.slice xa ksx.length xc) ksx) : ByteArray × Lt)]).length = i + 1) := hidd (by rw [List.length_append, HLL.out]; rfl)
                  clear ho4 hg4 hs1 hF ho2 z0 z1 z2 z3 z4 z5 HN3 HI3 HST7
                  generalize ls ++ [((n, .mk kx dx ex (.slice xa ksx.length xc) ksx) : ByteArray × Lt)] = ls7 at *
                  obtain ⟨va7, vc7, rfl⟩ := hI7.ow.shape
                  have HST : Hid (R = some (.mk kDir da ex' () ((ls7 ++ [((nk, .mk kk dk ek (.slice sa ksk.length sc) ksk) : ByteArray × Lt)] ++ ks.drop (i + 1)).map fun x => (x.1, x.2.bare)))) := hidd (by
                    rcases hI7.st with ⟨h, -⟩ | ⟨-, h⟩
                    · cases h
                    · simp only [Tr.kind, Tr.data, Tr.exec, Tr.kids] at h
                      rw [List.append_assoc, List.singleton_append, ← HXK.out, List.getElem_cons_drop]
                      exact h)
                  have HI7 := hidd hI7
                  have hn2 := hn7
                  clear hI7 hn7
                  have b0 := hn2.cell (i := 0) rfl
                  have b1 := hn2.cell (i := 1) rfl
                  have b2 := hn2.cell (i := 2) rfl
                  have b3 := hn2.cell (i := 3) rfl
                  have b4 := hn2.cell (i := 4) rfl
                  have hl7 : ls7.length ≤ i + 1 := by rw [HL7.out]; exact Nat.le_refl _
                  have hs1 := Src.new (P := Tryz.prog) (size := 5) (tx := 22) Tryz.underlying22 w4 w4.heap.size rfl [.string nk, .string kk, .string dk, .bool ek, .slice sa ksk.length sc] 58 rfl (by intro u hu; simp only [List.mem_cons, List.not_mem_nil, or_false] at hu; rcases hu with rfl | rfl | rfl | rfl | rfl <;> rfl) 1
                  have ho2 := HI7.out.ow
                  have hlen2 := HI7.out.len
                  go_wp2_with (at_builtin; refine wpList_append_ow _ rfl _ _ 22 22 rfl (fun g => w4.heap.size ≤ g ∨ (Value.slice va7 ls7.length vc7).ownBlock = some g) ?cF 58 i0 _ 5 80 Tryz.underlying22 hii hz0 hz1 hz2 rfl (by decide) _ _ _ rfl ((ho2.self.mono (fun g hg => .inr hg)).alloc _) _ _ _ rfl hs1 ?c3 ?c4 ?_)
                  case cF => intro g hg; (try simp at hg); exact .inl (by omega)
                  case c3 => unfold maxLen; omega
                  case c4 => omega
                  intro v8 w8 ho8 hg8
                  have hF8 : Fr (fun b => (Value.slice va7 ls7.length vc7).ownBlock = some b) w4 w8 := ((Fr.refl _ w4).alloc _).grown hg8 (fun b hb => .inl hb)
                  have HI4 := hidd (HI7.out.app (kid := (nk, .mk kk dk ek (.slice sa ksk.length sc) ksk)) (done' := true) (i' := i + 1) hF8 ho8 (HKO.out.ob HI7.out.k.below) (HI7.out.elder HKO.out) (fun F h1 _ => in_mono (fun b hb => .inl hb) _ (HKI.out F h1)) hkn hlt (by omega) (.inr ⟨rfl, HST.out⟩))
                  clear ho8 hg8 hs1 hF8 ho2 b0 b1 b2 b3 b4 hn2
                  go_wp2_with fail
                  go_roundw
                  case rel => exact ⟨true, i + 1, _, rfl, by go_num, HI4.out⟩
                  case measure => simp [intOf]; omega
              · have HRN : Hid (R = none) := hidd (by rw [HMS.out, if_neg hrd])
                have HK3 := hidd hI3.k
                have hq : decide ((1 : Int) < (r.length : Int) + 1) = true ∨ (decide ((1 : Int) < (r.length : Int) + 1) = false ∧ drop = true) := by
                  by_cases hr : r = []
                  · right
                    refine ⟨by rw [hr]; rfl, ?_⟩
                    cases hd : drop with
                    | true => rfl
                    | false => exact absurd ⟨hr, hd⟩ hrd
                  · left
                    have := List.length_pos_iff.2 hr
                    simp; omega
                clear hI3 hn3 HMS hrd
                rcases hq with hq | ⟨hq, rfl⟩
                all_goals
                  have hKr := HK3.out
                  obtain ⟨x0, x1, x2, x3, -⟩ := hKr.c
                  have f0 := hKr.bz.frozen 0
                  have f1 := hKr.bz.frozen 1
                  have f2 := hKr.bz.frozen 2
                  have f3 := hKr.bz.frozen 3
                  have y0 := hKr.bz.cell (i := 0) rfl
                  have y1 := hKr.bz.cell (i := 1) rfl
                  have y2 := hKr.bz.cell (i := 2) rfl
                  have y3 := hKr.bz.cell (i := 3) rfl
                  have s4 := hKr.bz.four (x0 := .string kDir) (x1 := .string da) (x2 := .bool ex') (x3 := .slice (some ⟨g, off, none⟩) ks.length cap)
                  have r0 := s4.cell (i := 0) rfl
                  have r1 := s4.cell (i := 1) rfl
                  have r2 := s4.cell (i := 2) rfl
                  have r3 := s4.cell (i := 3) rfl
                  have HBF := hidd (hKr.below.trans (((Fr.refl (fun b => b = w.heap.size + 2) _).four (p := w.heap.size + 2) (.inl rfl) (.string kDir) (.string da) (.bool ex') (.slice (some ⟨g, off, none⟩) ks.length cap)).below hKr.below.size (fun b e => by omega)))
                  clear hKr s4
                  go_wp2_with fail
                  refine bodyPost_ret (v := .tuple #[.agg #[.string kDir, .string da, .bool ex', .slice (some ⟨g, off, none⟩) ks.length cap], .bool false]) ?_ rfl ?_
                  · rw [results_cell_tmp rfl]
                    go_simp
                  · exact ⟨_, false, rfl, HT.out.ob HBF.out, fun F h1 h2 => in_mono (fun b hb => .inl hb) _ h1, HBF.out, by rw [HR.out, HRN.out]⟩
      · have hge := hlt
        cases done with
        | true =>
          have HI := hidd hI
          clear hI x0 x1 x2 x3 hvb0
          have hKr := HI.out.k
          obtain ⟨sB, sZ, sF, -⟩ := hKr.st (.slice va ls.length vc)
          have g3 := hKr.bt.frozen 3
          obtain ⟨q0, q1, q2, q3, -⟩ := hKr.c
          have sF2 := sF.mono (T := fun b => b = w.heap.size ∨ b = w.heap.size + 2) (fun b _ e => .inl e)
          have hFR := sF2.four (p := w.heap.size + 2) (.inl (.inr rfl)) (.string kDir) (.string da) (.bool ex') (.slice va ls.length vc)
          have HE := hidd (HI.out.endT hge hFR)
          have x0 := sB.cell (i := 0) rfl
          have x1 := sB.cell (i := 1) rfl
          have x2 := sB.cell (i := 2) rfl
          have x3 := sB.cell (i := 3) rfl
          have f0 := sZ.frozen 0
          have f1 := sZ.frozen 1
          have f2 := sZ.frozen 2
          have f3 := sZ.frozen 3
          have y0 := sZ.cell (i := 0) rfl
          have y1 := sZ.cell (i := 1) rfl
          have y2 := sZ.cell (i := 2) rfl
          have y3 := sZ.cell (i := 3) rfl
          have s4 := sZ.four (x0 := .string kDir) (x1 := .string da) (x2 := .bool ex') (x3 := .slice va ls.length vc)
          have r0 := s4.cell (i := 0) rfl
          have r1 := s4.cell (i := 1) rfl
          have r2 := s4.cell (i := 2) rfl
          have r3 := s4.cell (i := 3) rfl
          clear hKr s4 sB sZ sF sF2 hFR
          go_wp2_with fail
          refine bodyPost_ret (v := .tuple #[.agg #[.string kDir, .string da, .bool ex', .slice va ls.length vc], .bool true]) ?_ rfl ?_
          · rw [results_cell_tmp rfl]
            go_simp
          · obtain ⟨e1, e2, e3, e4⟩ := HE.out
            exact ⟨_, true, rfl, e1, e2, e3, by rw [HR.out, e4]; exact ⟨rfl, rfl⟩⟩
        | false =>
          have HLT : Hid (ls = ks.take i ∧ ∀ j (h : j < ks.length), j < i → cmpB ks[j].1 n < 0) := hidd (by
            rcases hI.st with ⟨-, h⟩ | ⟨h, -⟩
            · exact h
            · cases h)
          have HLL : Hid (ls.length = i) := hidd (by rw [HLT.out.1, List.length_take]; omega)
          have hrr : rising (ks.map (·.1)) = true := right_rising HR0.out
          have HF : Hid (FndK ks n i false) := hidd (fnd_at (ks := ks) hrr HLT.out.2 hiks (fun h => absurd h hge) ⟨(fun h => by cases h), fun h => absurd h.1 hge⟩)
          have HMS : Hid (R = if r = [] ∧ drop = false then some (.mk kDir da ex' () ((ks.take i).map (fun x => (x.1, x.2.bare)) ++ (n, Tr.bare (.mk kx dx ex (.slice xa ksx.length xc) ksx)) :: (ks.drop i).map fun x => (x.1, x.2.bare))) else none) := hidd (by rw [← HR.out]; exact set_miss hrr HF.out)
          clear hrr hvb0
          by_cases hrd : r = [] ∧ drop = false
          · obtain ⟨hr, rfl⟩ := hrd
            have q19 : decide ((1 : Int) < (r.length : Int) + 1) = false := by rw [hr]; rfl
            have HST7 : Hid (R = some (.mk kDir da ex' () ((ls ++ [((n, .mk kx dx ex (.slice xa ksx.length xc) ksx) : ByteArray × Lt)] ++ ks.drop i).map fun x => (x.1, x.2.bare)))) := hidd (by rw [HMS.out, if_pos ⟨hr, rfl⟩, HLT.out.1]; simp)
            obtain ⟨z0, z1, z2, z3, z4, z5⟩ := hI.k.drew.d
            have HI3 := hidd hI
            clear hr hI HMS
            go_upto_region 26 with fail
            have hs1 := Src.new (P := Tryz.prog) (size := 5) (tx := 22) Tryz.underlying22 wr.drew wr.heap.size rfl [.string n, .string kx, .string dx, .bool ex, .slice xa ksx.length xc] 58 rfl (by intro u hu; simp only [List.mem_cons, List.not_mem_nil, or_false] at hu; rcases hu with rfl | rfl | rfl | rfl | rfl <;> rfl) 1
            have ho2 := HI3.out.ow
            have hlen2 := HI3.out.len
            go_region_law (first
              | (refine step_append_tr rfl (.tmp 106) (.tmp 112) 22 22 rfl (fun g => wr.heap.size ≤ g ∨ (Value.slice va ls.length vc).ownBlock = some g) (fun g hg => by (try simp at hg); exact .inl (by omega)) 58 i0 _ 5 80 Tryz.underlying22 hii hz0 hz1 hz2 rfl (by decide) _ _ _ (by simp [Act.eval]) ((ho2.self.mono (fun g hg => .inr hg)).drew.alloc _) _ _ _ (by simp [Act.eval]) hs1 (by unfold maxLen; omega) (by omega) ?_; intro v3 w4 ho4 hg4))
            all_goals
              have hF : Fr (fun b => (Value.slice va ls.length vc).ownBlock = some b) wr w4 := (((Fr.refl _ wr).drew).alloc _).grown hg4 (fun b hb => .inl hb)
              have hI7 := HI3.out.app (kid := (n, .mk kx dx ex (.slice xa ksx.length xc) ksx)) (done' := true) (i' := i) hF ho4 (HX.out.ob HI3.out.k.below) (HI3.out.elder HX.out) (fun F _ h2 => in_mono (fun b hb => .inl hb) _ h2) (hnz n (List.mem_cons_self ..)) (by exact hiks) (by rw [HLL.out]; exact Nat.le_refl _) (.inr ⟨rfl, HST7.out⟩)
              clear ho4 hg4 hs1 hF ho2 z0 z1 z2 z3 z4 z5 HI3 HST7 x0 x1 x2 x3 k0
              generalize ls ++ [((n, .mk kx dx ex (.slice xa ksx.length xc) ksx) : ByteArray × Lt)] = ls7 at *
              obtain ⟨va7, vc7, rfl⟩ := hI7.ow.shape
              have HI7 := hidd hI7
              clear hI7
              have hKr := HI7.out.k
              obtain ⟨sB, sZ, sF, -⟩ := hKr.st (.slice va7 ls7.length vc7)
              have g3 := hKr.bt.frozen 3
              obtain ⟨q0, q1, q2, q3, -⟩ := hKr.c
              have sF2 := sF.mono (T := fun b => b = w.heap.size ∨ b = w.heap.size + 2) (fun b _ e => .inl e)
              have hFR := sF2.four (p := w.heap.size + 2) (.inl (.inr rfl)) (.string kDir) (.string da) (.bool ex') (.slice va7 ls7.length vc7)
              have HE := hidd (HI7.out.endT hge hFR)
              have x0 := sB.cell (i := 0) rfl
              have x1 := sB.cell (i := 1) rfl
              have x2 := sB.cell (i := 2) rfl
              have x3 := sB.cell (i := 3) rfl
              have f0 := sZ.frozen 0
              have f1 := sZ.frozen 1
              have f2 := sZ.frozen 2
              have f3 := sZ.frozen 3
              have y0 := sZ.cell (i := 0) rfl
              have y1 := sZ.cell (i := 1) rfl
              have y2 := sZ.cell (i := 2) rfl
              have y3 := sZ.cell (i := 3) rfl
              have s4 := sZ.four (x0 := .string kDir) (x1 := .string da) (x2 := .bool ex') (x3 := .slice va7 ls7.length vc7)
              have r0 := s4.cell (i := 0) rfl
              have r1 := s4.cell (i := 1) rfl
              have r2 := s4.cell (i := 2) rfl
              have r3 := s4.cell (i := 3) rfl
              clear hKr s4 sB sZ sF sF2 hFR
              go_wp2_with fail
              refine bodyPost_ret (v := .tuple #[.agg #[.string kDir, .string da, .bool ex', .slice va7 ls7.length vc7], .bool true]) ?_ rfl ?_
              · rw [results_cell_tmp rfl]
                go_simp
              · obtain ⟨e1, e2, e3, e4⟩ := HE.out
                exact ⟨_, true, rfl, e1, e2, e3, by rw [HR.out, e4]; exact ⟨rfl, rfl⟩⟩
          · have HRN : Hid (R = none) := hidd (by rw [HMS.out, if_neg hrd])
            have HK3 := hidd hI.k
            have hq : decide ((1 : Int) < (r.length : Int) + 1) = true ∨ (decide ((1 : Int) < (r.length : Int) + 1) = false ∧ drop = true) := by
              by_cases hr : r = []
              · right
                refine ⟨by rw [hr]; rfl, ?_⟩
                cases hd : drop with
                | true => rfl
                | false => exact absurd ⟨hr, hd⟩ hrd
              · left
                have := List.length_pos_iff.2 hr
                simp; omega
            clear hI HMS hrd x0 x1 x2 x3
            rcases hq with hq | ⟨hq, rfl⟩
            all_goals
              have hKr := HK3.out
              obtain ⟨x0, x1, x2, x3, -⟩ := hKr.c
              have f0 := hKr.bz.frozen 0
              have f1 := hKr.bz.frozen 1
              have f2 := hKr.bz.frozen 2
              have f3 := hKr.bz.frozen 3
              have y0 := hKr.bz.cell (i := 0) rfl
              have y1 := hKr.bz.cell (i := 1) rfl
              have y2 := hKr.bz.cell (i := 2) rfl
              have y3 := hKr.bz.cell (i := 3) rfl
              have s4 := hKr.bz.four (x0 := .string kDir) (x1 := .string da) (x2 := .bool ex') (x3 := .slice a ks.length cap)
              have r0 := s4.cell (i := 0) rfl
              have r1 := s4.cell (i := 1) rfl
              have r2 := s4.cell (i := 2) rfl
              have r3 := s4.cell (i := 3) rfl
              have HBF := hidd (hKr.below.trans (((Fr.refl (fun b => b = w.heap.size + 2) _).four (p := w.heap.size + 2) (.inl rfl) (.string kDir) (.string da) (.bool ex') (.slice a ks.length cap)).below hKr.below.size (fun b e => by omega)))
              clear hKr s4
              go_wp2_with fail
              refine bodyPost_ret (v := .tuple #[.agg #[.string kDir, .string da, .bool ex', .slice a ks.length cap], .bool false]) ?_ rfl ?_
              · rw [results_cell_tmp rfl]
                go_simp
              · exact ⟨_, false, rfl, HT.out.ob HBF.out, fun F h1 h2 => in_mono (fun b hb => .inl hb) _ h1, HBF.out, by rw [HR.out, HRN.out]⟩
  · have e1 : (kd.toList == [100, 105, 114]) = false := by
      rw [← kDir_list]; exact beq_str hd
    have HR : Hid (setT drop (Tr.bare (.mk kx dx ex (.slice xa ksx.length xc) ksx)) (n :: r) (Tr.bare (.mk kd da ex' (.slice a ks.length cap) ks)) = none) := hidd (set_leaf (by rw [Tr.bare, ownE_map]; exact (treeE_own h0).1) (by rw [Tr.bare, Tr.kind_map]; exact hd))
    obtain ⟨lb, lo, rfl, -⟩ := hK.hl.at1 (i := 0) (by simp)
    clear ht hx h0 hK x0 x1 x2 x3
    go_enter Tryz.func82, Tryz.ntmps82
    have hKr := HK.out
    obtain ⟨x0, x1, x2, x3, -⟩ := hKr.c
    have f0 := hKr.bz.frozen 0
    have f1 := hKr.bz.frozen 1
    have f2 := hKr.bz.frozen 2
    have f3 := hKr.bz.frozen 3
    have y0 := hKr.bz.cell (i := 0) rfl
    have y1 := hKr.bz.cell (i := 1) rfl
    have y2 := hKr.bz.cell (i := 2) rfl
    have y3 := hKr.bz.cell (i := 3) rfl
    have s4 := hKr.bz.four (x0 := .string kd) (x1 := .string da) (x2 := .bool ex') (x3 := .slice a ks.length cap)
    have r0 := s4.cell (i := 0) rfl
    have r1 := s4.cell (i := 1) rfl
    have r2 := s4.cell (i := 2) rfl
    have r3 := s4.cell (i := 3) rfl
    have HBF := hidd (hKr.below.trans (((Fr.refl (fun b => b = w.heap.size + 2) _).four (p := w.heap.size + 2) (.inl rfl) (.string kd) (.string da) (.bool ex') (.slice a ks.length cap)).below hKr.below.size (fun b e => by omega)))
    clear hKr s4
    go_wp2_with fail
    refine bodyPost_ret (v := .tuple #[.agg #[.string kd, .string da, .bool ex', .slice a ks.length cap], .bool false]) ?_ rfl ?_
    · rw [results_cell_tmp rfl]
      go_simp
    · exact ⟨_, false, rfl, HT.out.ob (three_below w _ _ _ _), fun F h1 h2 => in_mono (fun b hb => .inl hb) _ h1, (three_below w _ _ _ _), by rw [HR.out]⟩

set_option maxRecDepth 100000 in
set_option maxHeartbeats 8000000 in
theorem set_nil (t x : Lt) (v : Value) (w : World) (ht : t.Ok w) (hx : x.Ok w) (hl : Sl w v (tcells []) 0 1) :
    Calls Tryz.prog 82 #[nval t, v, nval x, .bool false] w (SetP false t x [] w) := by
  obtain ⟨la, lc, rfl, -⟩ := id hl
  obtain ⟨a, cap, hv⟩ := ht.shape
  obtain ⟨xa, xc, hxv⟩ := hx.shape
  have hK := with_start t x la lc [] w a xa cap xc hv hxv ht hx hl
  have HX := hidd hx
  obtain ⟨kx, dx, ex, vx, ksx⟩ := x
  obtain ⟨kd, da, ex', va, ks⟩ := t
  simp only [Tr.kind, Tr.data, Tr.exec, Tr.v, Tr.kids] at hK hxv hv
  subst hxv
  subst hv
  unfold nval
  simp only [Tr.kind, Tr.data, Tr.exec, Tr.v]
  have z0 := hK.bx.cell (i := 0) rfl
  have z1 := hK.bx.cell (i := 1) rfl
  have z2 := hK.bx.cell (i := 2) rfl
  have z3 := hK.bx.cell (i := 3) rfl
  simp only [Tr.kind, Tr.data, Tr.exec, Tr.v] at z0 z1 z2 z3
  have f0 := hK.bz.frozen 0
  have f1 := hK.bz.frozen 1
  have f2 := hK.bz.frozen 2
  have f3 := hK.bz.frozen 3
  have y0 := hK.bz.cell (i := 0) rfl
  have y1 := hK.bz.cell (i := 1) rfl
  have y2 := hK.bz.cell (i := 2) rfl
  have y3 := hK.bz.cell (i := 3) rfl
  have s4 := hK.bz.four (x0 := .string kx) (x1 := .string dx) (x2 := .bool ex) (x3 := .slice xa ksx.length xc)
  have r0 := s4.cell (i := 0) rfl
  have r1 := s4.cell (i := 1) rfl
  have r2 := s4.cell (i := 2) rfl
  have r3 := s4.cell (i := 3) rfl
  clear hK s4 hl ht hx
  go_enter Tryz.func82, Tryz.ntmps82
  go_wp2_with fail
  refine bodyPost_ret (v := .tuple #[.agg #[.string kx, .string dx, .bool ex, .slice xa ksx.length xc], .bool true]) ?_ rfl ?_
  · rw [results_cell_tmp rfl]
    go_simp
  · exact ⟨_, true, rfl, HX.out.ob (three_below w _ _ _ _), fun F _ h2 => in_mono (fun b hb => .inl hb) _ h2, three_below w _ _ _ _, by rw [setT_put, with_nil]; exact ⟨rfl, rfl⟩⟩

theorem set_any (drop : Bool) : ∀ (l : List ByteArray) (t x : Lt) (v : Value) (w : World), (drop = true → l ≠ []) → t.Ok w → x.Ok w → treeE t = 0 → Sl w v (tcells l) l.length 1 → (∀ m ∈ l, m.size ≤ 140737488351232) →
    Calls Tryz.prog 82 #[nval t, v, nval x, .bool drop] w (SetP drop t x l w)
  | [], t, x, v, w, hd, ht, hx, _, hl, _ => by
    cases drop with
    | true => exact absurd rfl (hd rfl)
    | false => exact set_nil t x v w ht hx hl
  | n :: r, t, x, v, w, _, ht, hx, h0, hl, hz => set_cons drop n r (set_any drop r) t x v w ht hx h0 hl hz
end Go.Proofs.YtoaedkinlnkkhaaGreatDoor
