/- Lists of a tree's nodes in memory. Condition: the cells are there. · The contract of the reference's ListOf. Condition: the tree is there; at most 300 nodes are asked for. · The contract of LargeNode. Condition: the tree is there. -/
import Derived.Test.YtoemahhpheobkaaGreatDoorTrO
import Derived.WalkLawsBesides
import Derived.Lib.Hide
import Derived.Test.YtoemahhpheobkaaGreatDoorTrC
namespace Go.Proofs.YtoemahhpheobkaaGreatDoor
open Go.RowKit

section
variable {w w' : World} {v : Value} {a : Option Addr} {n cap size : Nat} {cs : List Value}
theorem Sl.takeN (h : Sl w (.slice a n cap) cs n size) {k : Nat} (hk : k ≤ n) : Sl w (.slice a k cap) (cs.take (k * size)) k size := by
  obtain ⟨a', cap', he, h1, h2, h2', h3⟩ := h
  simp only [Value.slice.injEq] at he
  obtain ⟨rfl, _, rfl⟩ := he
  have hks : k * size ≤ n * size := Nat.mul_le_mul_right _ hk
  refine ⟨a, cap, rfl, by rw [List.length_take]; omega, by omega, h2', ?_⟩
  rcases h3 with h3 | ⟨b, off, rfl, h4, h5⟩
  · exact .inl (by omega)
  · refine .inr ⟨b, off, rfl, h4, fun j hj => ?_⟩
    rw [List.length_take] at hj
    rw [h5 j (by omega), List.getElem_take]
theorem Sl.dropN {b off : Nat} (h : Sl w (.slice (some ⟨b, off, none⟩) n cap) cs n size) {k : Nat} (hk : k ≤ n) : Sl w (.slice (some ⟨b, off + k * size, none⟩) (n - k) (cap - k)) (cs.drop (k * size)) (n - k) size := by
  obtain ⟨a', cap', he, h1, h2, h2', h3⟩ := h
  simp only [Value.slice.injEq] at he
  obtain ⟨rfl, _, rfl⟩ := he
  have hks : k * size ≤ n * size := Nat.mul_le_mul_right _ hk
  refine ⟨_, _, rfl, by rw [List.length_drop, h1, Nat.sub_mul], by omega, by omega, ?_⟩
  rcases h3 with h3 | ⟨b', off', he, h4, h5⟩
  · exact .inl (by omega)
  · simp only [Option.some.injEq, Addr.mk.injEq] at he
    obtain ⟨rfl, rfl, _⟩ := he
    refine .inr ⟨b, off + k * size, rfl, h4, fun j hj => ?_⟩
    rw [List.length_drop] at hj
    rw [Nat.add_assoc, h5 (k * size + j) (by omega), List.getElem_drop]
theorem Sl.new (w : World) (cs : List Value) (T : TypeId) (size : Nat) (hl : cs.length = size) : Sl (w.alloc (.cells cs.toArray T)) (.slice (some ⟨w.heap.size, 0, none⟩) 1 1) cs 1 size :=
  ⟨_, _, rfl, by omega, Nat.le_refl _, by unfold maxLen; omega, .inr ⟨_, 0, rfl, by simp, fun j hj => by rw [Nat.zero_add]; exact (Blk.new w cs T).cell (List.getElem?_eq_getElem hj)⟩⟩
theorem Sl.drew (h : Sl w v cs n size) : Sl w.drew v cs n size := h
theorem Sl.empty (w : World) (a : Option Addr) (cap size : Nat) (hm : cap ≤ maxLen) : Sl w (.slice a 0 cap) [] 0 size := ⟨a, cap, rfl, by simp, Nat.zero_le _, hm, .inl rfl⟩
end

def tcell (x : It Value) : List Value := .string x.path :: .int .i64 (x.deep : Int) :: ncells x.n
def itcells (l : List (It Value)) : List Value := l.flatMap tcell
theorem itcells_len (l : List (It Value)) : (itcells l).length = l.length * 6 := by
  induction l with
  | nil => rfl
  | cons x r ih =>
    have e : itcells (x :: r) = .string x.path :: .int .i64 (x.deep : Int) :: .string x.n.kind :: .string x.n.data :: .bool x.n.exec :: x.n.v :: itcells r := rfl
    rw [e]; simp only [List.length_cons, ih]; omega
theorem itcells_app (a b : List (It Value)) : itcells (a ++ b) = itcells a ++ itcells b := by simp [itcells]
theorem itcells_take (l : List (It Value)) (k : Nat) : (itcells l).take (k * 6) = itcells (l.take k) := by
  by_cases h : k ≤ l.length
  · have e := List.take_append_drop k l
    conv => lhs; rw [← e]
    rw [itcells_app, List.take_append_of_le_length (by rw [itcells_len, List.length_take]; omega), List.take_of_length_le (by rw [itcells_len, List.length_take]; omega)]
  · rw [List.take_of_length_le (by rw [itcells_len]; omega), List.take_of_length_le (by omega)]
theorem itcells_drop (l : List (It Value)) (k : Nat) : (itcells l).drop (k * 6) = itcells (l.drop k) := by
  by_cases h : k ≤ l.length
  · have e := List.take_append_drop k l
    conv => lhs; rw [← e]
    rw [itcells_app]
    have hl : (itcells (l.take k)).length = k * 6 := by rw [itcells_len, List.length_take]; omega
    rw [← hl, List.drop_left]
  · rw [List.drop_of_length_le (by rw [itcells_len]; omega), List.drop_of_length_le (by omega)]; rfl
theorem itcells_at : ∀ (l : List (It Value)) (i : Nat) (h : i < l.length), (itcells l)[i * 6]? = some (.string l[i].path) ∧ (itcells l)[i * 6 + 1]? = some (.int .i64 (l[i].deep : Int)) ∧ (itcells l)[i * 6 + 2]? = some (.string l[i].n.kind) ∧ (itcells l)[i * 6 + 3]? = some (.string l[i].n.data) ∧ (itcells l)[i * 6 + 4]? = some (.bool l[i].n.exec) ∧ (itcells l)[i * 6 + 5]? = some l[i].n.v
  | x :: l, 0, h => ⟨rfl, rfl, rfl, rfl, rfl, rfl⟩
  | x :: l, i + 1, h => by
    have := itcells_at l i (by simpa using h)
    have e : itcells (x :: l) = .string x.path :: .int .i64 (x.deep : Int) :: .string x.n.kind :: .string x.n.data :: .bool x.n.exec :: x.n.v :: itcells l := rfl
    rw [e, show (i + 1) * 6 = i * 6 + 1 + 1 + 1 + 1 + 1 + 1 by omega, show i * 6 + 1 + 1 + 1 + 1 + 1 + 1 + 2 = i * 6 + 2 + 1 + 1 + 1 + 1 + 1 + 1 by omega,
      show i * 6 + 1 + 1 + 1 + 1 + 1 + 1 + 3 = i * 6 + 3 + 1 + 1 + 1 + 1 + 1 + 1 by omega, show i * 6 + 1 + 1 + 1 + 1 + 1 + 1 + 4 = i * 6 + 4 + 1 + 1 + 1 + 1 + 1 + 1 by omega, show i * 6 + 1 + 1 + 1 + 1 + 1 + 1 + 5 = i * 6 + 5 + 1 + 1 + 1 + 1 + 1 + 1 by omega]
    simpa using this

/-- Nodes that are there, their paths not too long. -/
structure ItOk (w : World) (D : Nat) (x : It Value) : Prop where
  path : x.path.size ≤ x.deep * 140737488351233
  deep : x.deep ≤ D + 1
  ok : x.n.Ok w
theorem ItOk.ob {w w' : World} {D : Nat} {x : It Value} (h : ItOk w D x) (hf : Below w.heap.size w w') : ItOk w' D x := ⟨h.path, h.deep, h.ok.ob hf⟩
theorem ItOk.kid {w : World} {D m : Nat} {x : It Value} (h : ItOk w D x) (hd : x.deep ≤ D) : ∀ y ∈ kidsOf m x, ItOk w D y := by
  intro y hy
  unfold kidsOf at hy
  obtain ⟨k, hk, rfl⟩ := List.mem_map.1 hy
  have hk' := List.mem_of_mem_take hk
  refine ⟨?_, by simp; omega, h.ok.kid hk'⟩
  have h1 := h.path
  have h2 := h.ok.names k hk'
  have e : (sub x.path k.1).size = x.path.size + 1 + k.1.size := by
    unfold sub; rw [ByteArray.size_append, ByteArray.size_append]; rfl
  simp only
  rw [e, Nat.add_mul]
  omega
theorem one_itcells (l : List (It Value)) (w : World) (D : Nat) (h : ∀ x ∈ l, ItOk w D x) : ∀ u ∈ itcells l, u.oneCell' = true := by
  intro u hu
  unfold itcells at hu
  obtain ⟨x, hx, hu⟩ := List.mem_flatMap.1 hu
  obtain ⟨a, cap, hv⟩ := (h x hx).ok.shape
  simp only [tcell, ncells, List.mem_cons, List.not_mem_nil, or_false] at hu
  rcases hu with rfl | rfl | rfl | rfl | rfl | rfl
  · rfl
  · rfl
  · rfl
  · rfl
  · rfl
  · rw [hv]; rfl
/-- The cells of item i, in the walk's spelling. -/
theorem sl_at6 {w : World} {a : Option Addr} {n cap : Nat} {l : List (It Value)} (h : Sl w (.slice a n cap) (itcells l) n 6) {i : Nat} (hi : i < l.length) :
    ∃ b off, a = some ⟨b, off, none⟩ ∧ b < w.heap.size ∧ w.cell? ⟨b, off + i * 6, none⟩ = some (.string l[i].path) ∧ w.cell? ⟨b, off + i * 6 + 1, none⟩ = some (.int .i64 (l[i].deep : Int)) ∧ w.cell? ⟨b, off + i * 6 + 2, none⟩ = some (.string l[i].n.kind) ∧ w.cell? ⟨b, off + i * 6 + 3, none⟩ = some (.string l[i].n.data) ∧ w.cell? ⟨b, off + i * 6 + 4, none⟩ = some (.bool l[i].n.exec) ∧ w.cell? ⟨b, off + i * 6 + 5, none⟩ = some l[i].n.v := by
  obtain ⟨a', cap', he, h1, h2, h2', h3⟩ := h
  simp only [Value.slice.injEq] at he
  obtain ⟨rfl, _, rfl⟩ := he
  have hl := itcells_len l
  rcases h3 with h3 | ⟨b, off, rfl, h4, h5⟩
  · omega
  · obtain ⟨k0, k1, k2, k3, k4, k5⟩ := itcells_at l i hi
    refine ⟨b, off, rfl, h4, ?_, ?_, ?_, ?_, ?_, ?_⟩
    · rw [h5 _ (by omega)]; rw [List.getElem?_eq_getElem (by omega)] at k0; exact k0
    · rw [Nat.add_assoc, h5 _ (by omega)]; rw [List.getElem?_eq_getElem (by omega)] at k1; exact k1
    · rw [Nat.add_assoc, h5 _ (by omega)]; rw [List.getElem?_eq_getElem (by omega)] at k2; exact k2
    · rw [Nat.add_assoc, h5 _ (by omega)]; rw [List.getElem?_eq_getElem (by omega)] at k3; exact k3
    · rw [Nat.add_assoc, h5 _ (by omega)]; rw [List.getElem?_eq_getElem (by omega)] at k4; exact k4
    · rw [Nat.add_assoc, h5 _ (by omega)]; rw [List.getElem?_eq_getElem (by omega)] at k5; exact k5
theorem kidsOf_len {α : Type} (m : Nat) (x : It α) : (kidsOf m x).length = min m x.n.kids.length := by simp [kidsOf]
theorem kidsOf_succ {α : Type} {k : Nat} {x : It α} (h : k < x.n.kids.length) : kidsOf (k + 1) x = kidsOf k x ++ [⟨sub x.path x.n.kids[k].1, x.deep + 1, x.n.kids[k].2⟩] := by
  unfold kidsOf; rw [List.take_succ_eq_append_getElem h, List.map_append]; rfl
theorem kidsOf_all {α : Type} {m k : Nat} {x : It α} (h : k = min m x.n.kids.length) : kidsOf k x = kidsOf m x := by
  unfold kidsOf
  by_cases hk : m ≤ x.n.kids.length
  · rw [show k = m by omega]
  · rw [show k = x.n.kids.length by omega, List.take_of_length_le (Nat.le_refl _), List.take_of_length_le (by omega)]
end Go.Proofs.YtoemahhpheobkaaGreatDoor

namespace Go.Proofs.YtoemahhpheobkaaGreatDoor
open Go.RowKit

theorem infoItem : (Tryz.prog.info? 132).map (fun i => (i.zero, i.size, i.bytes)) = some (some (.agg #[.string ⟨#[]⟩, .int .i64 0, .string ⟨#[]⟩, .string ⟨#[]⟩, .bool false, .slice none 0 0]), 6, 88) := by kernel_rfl

theorem take_mid {α : Type} (d : List α) (x : α) (r : List α) : (d ++ x :: r).take (d.length + 1) = d ++ [x] := by
  rw [show d ++ x :: r = (d ++ [x]) ++ r by simp]; exact List.take_left' (by simp)
theorem drop_mid {α : Type} (d : List α) (x : α) (r : List α) : (d ++ x :: r).drop (d.length + 1) = r := by
  rw [show d ++ x :: r = (d ++ [x]) ++ r by simp]; exact List.drop_left' (by simp)

/-- Where the list of nodes is at round i. -/
structure LoAt (w : World) (most D : Nat) (L : List (It Value)) (i : Nat) (v : Value) (wr : World) (done todo : List (It Value)) : Prop where
  len : done.length = i
  le : i ≤ most + 1
  eq : done ++ lo (most + 1) D (most + 1 - i) todo = L
  many : (done ++ todo).length ≤ 1 + i * (most + 1)
  ok : ∀ x ∈ done ++ todo, ItOk wr D x
  own : Ow (fun g => w.heap.size ≤ g) wr 132 6 v (done ++ todo).length (itcells (done ++ todo))
  bel : Below w.heap.size w wr

/-- What ListOf gives. -/
def ListP (L : List (It Value)) (D : Nat) (w : World) (e : Ending) (w' : World) : Prop :=
  ∃ v, e = .returned v ∧ L.length ≤ 91000 ∧ Ow (fun g => w.heap.size ≤ g) w' 132 6 v L.length (itcells L) ∧ (∀ x ∈ L, ItOk w' D x) ∧ Below w.heap.size w w'

set_option maxRecDepth 100000 in
set_option maxHeartbeats 40000000 in
theorem listOf_any (t : Lt) (most D : Nat) (w : World) (ht : t.Ok w) (hm : most ≤ 300) (hD : D ≤ 20) :
    Calls Tryz.prog 58 #[nval t, .int .i64 (most : Int), .int .i64 (D : Int)] w (ListP (listOf most D t) D w) := by
  obtain ⟨i0, hi, hz0, hz1, hz2⟩ := info_parts infoItem
  obtain ⟨ta, tc, htv⟩ := ht.shape
  obtain ⟨L, hL⟩ : ∃ L, listOf most D t = L := ⟨_, rfl⟩
  have HL : Hid (listOf most D t = L) := hidd hL
  rw [hL]
  clear hL
  obtain ⟨kd, da, ex, va, ks⟩ := t
  simp only [Tr.v, Tr.kids] at htv
  subst htv
  unfold nval
  simp only [Tr.kind, Tr.data, Tr.exec, Tr.v]
  have hB0 : Below w.heap.size w ((w.alloc (.cells #[.string kd, .string da, .bool ex, .slice ta ks.length tc] 32)).alloc (.cells #[.string ⟨#[]⟩, .int .i64 0, .string kd, .string da, .bool ex, .slice ta ks.length tc] 132)) := ((Below.refl _ _).alloc (Nat.le_refl _) _).alloc (by simp) _
  have H0 : Hid (LoAt w most D L 0 (.slice (some ⟨w.heap.size + 1, 0, none⟩) 1 1) ((w.alloc (.cells #[.string kd, .string da, .bool ex, .slice ta ks.length tc] 32)).alloc (.cells #[.string ⟨#[]⟩, .int .i64 0, .string kd, .string da, .bool ex, .slice ta ks.length tc] 132)) [] [⟨⟨#[]⟩, 0, .mk kd da ex (.slice ta ks.length tc) ks⟩]) := hidd {
    len := rfl
    le := by omega
    eq := HL.out
    many := by simp
    ok := fun x hx => by
      simp only [List.nil_append, List.mem_cons, List.not_mem_nil, or_false] at hx
      subst hx
      exact ⟨Nat.zero_le _, Nat.zero_le _, ht.ob hB0⟩
    own := by
      have := Blk.new (w.alloc (.cells #[.string kd, .string da, .bool ex, .slice ta ks.length tc] 32)) [.string ⟨#[]⟩, .int .i64 0, .string kd, .string da, .bool ex, .slice ta ks.length tc] 132
      rw [show (w.alloc (.cells #[.string kd, .string da, .bool ex, .slice ta ks.length tc] 32)).heap.size = w.heap.size + 1 by simp] at this
      refine ⟨rfl, .inr ⟨w.heap.size + 1, 0, 1, _, rfl, by omega, this, by simp, by unfold maxLen; omega, by simp, rfl⟩⟩
    bel := hB0 }
  go_enter Tryz.func58, Tryz.ntmps58
  go_wp2_with fail
  go_loopw [7, 8] (fun v t wr => ∃ (i : Nat) (done todo : List (It Value)), t = .int .i64 (i : Int) ∧ LoAt w most D L i v wr done todo) (fun _ t _ => most + 1 - (intOf t).toNat)
  case atStart => exact ⟨0, _, _, rfl, H0.out⟩
  case round =>
    obtain ⟨i, done, todo, rfl, h⟩ := hrel
    obtain ⟨va, vc, hv⟩ := h.own.shape
    subst hv
    have hmul : i * (most + 1) ≤ 301 * 301 := Nat.mul_le_mul (by have := h.le; omega) (by omega)
    have hn : (done ++ todo).length ≤ 91000 := by have := h.many; omega
    have hlen := h.len
    have hle := h.le
    have hz := h.bel.size
    clear hB0 ht H0
    cases todo with
    | nil =>
      have hnn : (done ++ ([] : List (It Value))).length = i := by simp [hlen]
      have HE : Hid (done = L) := hidd (by
        have := h.eq
        cases hc : most + 1 - i <;> simpa [hc, lo] using this)
      have HP : Hid (ListP L D w (.returned (.slice va i vc)) wr) := hidd (by
        refine ⟨_, rfl, ?_, ?_, ?_, h.bel⟩
        · rw [← HE.out]; simpa using hn
        · rw [← HE.out]; have := h.own; rw [hnn] at this; rw [hlen]; simpa using this
        · rw [← HE.out]; simpa using h.ok)
      rw [hnn]
      have q1 : decide (i < i) = false := by simp
      clear h hmul hn hnn hlen hz
      go_wp2_with fail
      go_ret
      exact HP.out
    | cons x r =>
      have hnn : (done ++ x :: r).length = i + 1 + r.length := by simp [hlen]; omega
      by_cases him : i ≤ most
      · have hxo := h.ok x (by simp)
        obtain ⟨xa, xc, hxv⟩ := hxo.ok.shape
        obtain ⟨b, off, hva, hbl, c0, c1, c2, c3, c4, c5⟩ := sl_at6 (l := done ++ x :: r) (i := i) h.own.sl (by rw [hnn]; omega)
        have hget : (done ++ x :: r)[i]'(by rw [hnn]; omega) = x := by
          rw [List.getElem_append_right (by omega)]; simp [hlen]
        rw [hget] at c0 c1 c2 c3 c4 c5
        clear hget
        subst hva
        obtain ⟨px, dx, ⟨kx, dax, ex', vx, ksx⟩⟩ := x
        simp only [Tr.v, Tr.kids, Tr.kind, Tr.data, Tr.exec] at hxv c0 c1 c2 c3 c4 c5
        subst hxv
        have hlo : lo (most + 1) D (most + 1 - i) (⟨px, dx, .mk kx dax ex' (.slice xa ksx.length xc) ksx⟩ :: r) = ⟨px, dx, .mk kx dax ex' (.slice xa ksx.length xc) ksx⟩ :: lo (most + 1) D (most + 1 - (i + 1)) ((if D < dx then [] else kidsOf (most + 1) ⟨px, dx, .mk kx dax ex' (.slice xa ksx.length xc) ksx⟩) ++ r) := by
          rw [show most + 1 - i = (most + 1 - (i + 1)) + 1 by omega, lo]
        have p1 : (0 : Int) ≤ (i : Int) := by omega
        have q2 : decide ((i : Int) ≤ (most : Int)) = true := by simp; omega
        have q2' : decide (i ≤ most) = true := by simp; omega
        have hin : i < i + 1 + r.length := by omega
        have hbx : Below wr.heap.size wr (wr.alloc (.cells #[.string px, .int .i64 (dx : Int), .string kx, .string dax, .bool ex', .slice xa ksx.length xc] 132)) := (Below.refl _ _).alloc (Nat.le_refl _) _
        by_cases hdx : D < dx
        · rw [if_pos hdx] at hlo
          have HN : Hid (LoAt w most D L (i + 1) (.slice (some ⟨b, off, none⟩) (i + 1 + r.length) vc) (wr.alloc (.cells #[.string px, .int .i64 (dx : Int), .string kx, .string dax, .bool ex', .slice xa ksx.length xc] 132)) (done ++ [⟨px, dx, .mk kx dax ex' (.slice xa ksx.length xc) ksx⟩]) r) := hidd {
            len := by simp [hlen]
            le := by omega
            eq := by rw [← h.eq, hlo]; simp
            many := by have := h.many; rw [Nat.add_mul]; simp at this ⊢; omega
            ok := fun y hy => (h.ok y (by simpa using hy)).ob hbx
            own := by have := h.own.ob hbx; rw [← hnn]; simpa using this
            bel := h.bel.trans (hbx.mono hz) }
          rw [hnn] at hn ⊢
          generalize i + 1 + r.length = n at *
          have q1 : decide (i < n) = true := by simp; omega
          have q1' : (i : Int) < (n : Int) := by omega
          have q3 : decide ((D : Int) < (dx : Int)) = true := by simp; omega
          have q3' : decide (D < dx) = true := by simp; omega
          clear h hmul hnn hlen hz hle hlo hxo hbx
          go_wp2_with fail
          go_roundw
          case rel => exact ⟨i + 1, _, _, by go_num, HN.out⟩
          case measure => simp [intOf]; omega
        · rw [if_neg hdx] at hlo
          have hown1 := h.own.ob hbx
          have hok1 : ∀ y ∈ done ++ ⟨px, dx, .mk kx dax ex' (.slice xa ksx.length xc) ksx⟩ :: r, ItOk (wr.alloc (.cells #[.string px, .int .i64 (dx : Int), .string kx, .string dax, .bool ex', .slice xa ksx.length xc] 132)) D y := fun y hy => (h.ok y hy).ob hbx
          have hs0 := hown1.sl
          rw [hnn] at hs0
          have hcap : i + 1 + r.length ≤ vc := by
            obtain ⟨a', c', he, _, h2, _⟩ := hs0
            simp only [Value.slice.injEq] at he
            omega
          have hs1 := hs0.takeN (k := i + 1) (by omega)
          have htk : (done ++ ⟨px, dx, .mk kx dax ex' (.slice xa ksx.length xc) ksx⟩ :: r).take (i + 1) = done ++ [⟨px, dx, .mk kx dax ex' (.slice xa ksx.length xc) ksx⟩] := by
            rw [← hlen]; exact take_mid _ _ _
          rw [itcells_take, htk] at hs1
          have hsr1 := Src.sl (P := Tryz.prog) (tx := 129) Tryz.underlying129 hs1 (one_itcells _ _ D (fun y hy => hok1 y (by rcases List.mem_append.1 hy with hy | hy; exact List.mem_append_left _ hy; simp only [List.mem_cons, List.not_mem_nil, or_false] at hy; subst hy; simp)))
          have hq := Blk.new wr [.string px, .int .i64 (dx : Int), .string kx, .string dax, .bool ex', .slice xa ksx.length xc] 132
          have hzx : (wr.alloc (.cells #[.string px, .int .i64 (dx : Int), .string kx, .string dax, .bool ex', .slice xa ksx.length xc] 132)).heap.size = wr.heap.size + 1 := by simp
          obtain ⟨n, hnd⟩ : ∃ n, i + 1 + r.length = n := ⟨_, rfl⟩
          rw [hnn] at hn ⊢
          rw [hnd] at hn hcap ⊢
          have q1 : decide (i < n) = true := by simp; omega
          have q1' : (i : Int) < (n : Int) := by omega
          have q3 : decide ((D : Int) < (dx : Int)) = false := by simp; omega
          have q3' : decide (D < dx) = false := by simp; omega
          have q4 : (i : Int) + 1 ≤ (vc : Int) := by omega
          have HN := hidd hnd
          have HLE := hidd hlen
          have HNN := hidd hnn
          have HLO := hidd hlo
          clear hnd hlen hnn hlo htk
          go_wp2_with (at_builtin; refine wpList_append_ow _ rfl _ _ 129 129 rfl (fun g => wr.heap.size < g) ?cF 132 i0 _ 6 88 Tryz.underlying129 hi hz0 hz1 hz2 rfl (by decide) _ _ _ rfl (Ow.nil _ _ 132 6) _ _ _ rfl hsr1 ?c3 ?c4 ?_)
          case cF => intro g hg; simp at hg; omega
          case c3 => unfold maxLen; omega
          case c4 => omega
          intro v2 w2 ho2 hg2
          have hb12 : Below (wr.heap.size + 1) (wr.alloc (.cells #[.string px, .int .i64 (dx : Int), .string kx, .string dax, .bool ex', .slice xa ksx.length xc] 132)) w2 := (Below.refl _ _).grown hg2 (by simp) (fun k hk => by simp [Value.ownBlock] at hk)
          try simp only [Nat.zero_add, List.nil_append] at ho2
          go_wp2_with fail
          obtain ⟨wo, hwo⟩ : ∃ wo : World, wo = wr := ⟨_, rfl⟩
          subst hwo
          go_loopw [10, 11] (fun v t wi => ∃ k : Nat, k ≤ ksx.length ∧ k ≤ most + 1 ∧ t = .int .i64 (k : Int) ∧ Ow (fun g => wo.heap.size < g) wi 132 6 v (i + 1 + k) (itcells (done ++ [⟨px, dx, .mk kx dax ex' (.slice xa ksx.length xc) ksx⟩] ++ kidsOf k ⟨px, dx, .mk kx dax ex' (.slice xa ksx.length xc) ksx⟩)) ∧
            Below (wo.heap.size + 1) (wo.alloc (.cells #[.string px, .int .i64 (dx : Int), .string kx, .string dax, .bool ex', .slice xa ksx.length xc] 132)) wi) (fun _ t _ => most + 1 - (intOf t).toNat)
          case atStart => exact ⟨0, Nat.zero_le _, Nat.zero_le _, rfl, by simpa [kidsOf] using ho2, hb12⟩
          case round =>
            obtain ⟨k, hk, hkm, rfl, hown, hbi⟩ := hrel
            obtain ⟨la, lc, rfl⟩ := hown.shape
            have hqi := hq.below hbi (by omega)
            have e0 := hqi.cell (i := 0) rfl
            have e1 := hqi.cell (i := 1) rfl
            have e5 := hqi.cell (i := 5) rfl
            have hzi := hbi.size
            rw [hzx] at hzi
            by_cases hgo : k < ksx.length ∧ k ≤ most
            · obtain ⟨hlt, hkm2⟩ := hgo
              have hbw : Below wo.heap.size wo wr := hbx.trans (hbi.mono (by omega))
              have hxi : (Tr.mk kx dax ex' (.slice xa ksx.length xc) ksx : Lt).Ok wr := hxo.ok.ob hbw
              obtain ⟨kb, ko, hxa, hkb, g0', g1', g2', g3', g4'⟩ := hxo.ok.at5 rfl hlt
              have g0 := (hbw.cell (p := ⟨kb, _, none⟩) hkb).trans g0'
              have g1 := (hbw.cell (p := ⟨kb, _, none⟩) hkb).trans g1'
              have g2 := (hbw.cell (p := ⟨kb, _, none⟩) hkb).trans g2'
              have g3 := (hbw.cell (p := ⟨kb, _, none⟩) hkb).trans g3'
              have g4 := (hbw.cell (p := ⟨kb, _, none⟩) hkb).trans g4'
              clear g0' g1' g2' g3' g4'
              have hkk := hxi.get hlt
              have hnms := hxi.names _ (List.getElem_mem hlt)
              obtain ⟨ya, yc, hyv⟩ := hkk.shape
              have hks := kidsOf_succ (x := (⟨px, dx, .mk kx dax ex' (.slice xa ksx.length xc) ksx⟩ : It Value)) hlt
              simp only [Tr.kids] at g0 g1 g2 g3 g4 hkk hnms hyv hks
              obtain ⟨y, hy⟩ : ∃ y, ksx[k] = y := ⟨_, rfl⟩
              rw [hy] at g0 g1 g2 g3 g4 hkk hnms hyv hks
              obtain ⟨ny, ⟨ky, dy, ey, vy, ksy⟩⟩ := y
              simp only [Tr.kind, Tr.data, Tr.exec, Tr.v] at g0 g1 g2 g3 g4 hyv hnms
              subst hyv
              have hpth := hxo.path
              have hdp := hxo.deep
              simp only at hpth hdp
              have hps : px.size ≤ 3000000000000000 := by
                have : dx * 140737488351233 ≤ 21 * 140737488351233 := Nat.mul_le_mul_right _ (by omega)
                omega
              have p3 : (0 : Int) ≤ (k : Int) := by omega
              have p4 : (k : Int) < (ksx.length : Int) := by omega
              have q5 : decide (k < ksx.length) = true := by simp; omega
              have q6 : decide ((k : Int) ≤ (most : Int)) = true := by simp; omega
              have q6' : decide (k ≤ most) = true := by simp; omega
              have hw1 : IntKind.i64.wrap ((dx : Int) + 1) = (dx : Int) + 1 := i64_in _ (by omega)
              clear hy c0 c1 c2 c3 c4 c5
              subst hxa
              have hs2 := Src.sl (P := Tryz.prog) (tx := 129) Tryz.underlying129 (Sl.new wr [.string (px ++ ⟨#[47]⟩ ++ ny), .int .i64 ((dx : Int) + 1), .string ky, .string dy, .bool ey, .slice ya ksy.length yc] 132 6 rfl).drew (by intro u hu; simp only [List.mem_cons, List.not_mem_nil, or_false] at hu; rcases hu with rfl | rfl | rfl | rfl | rfl | rfl <;> rfl)
              have HKS := hidd hks
              have HQ1 := hidd hq
              have r1 : ¬ (9223372036854775807 < px.size + 1) := by omega
              have r2 : ¬ (9223372036854775807 < px.size + 1 + ny.size) := by omega
              clear hks hq hkk hxi hxo hok1 hown1 hs0 hs1 hsr1 h hb12 ho2 hg2 hpth hdp
              go_wp2_with fail
              have HC : Hid (∀ W, Below (wo.heap.size + 1) wr W → W.cell? ⟨wo.heap.size, 0, none⟩ = some (.string px) ∧ W.cell? ⟨wo.heap.size, 1, none⟩ = some (.int .i64 (dx : Int)) ∧ W.cell? ⟨wo.heap.size, 5, none⟩ = some (.slice (some ⟨kb, ko, none⟩) ksx.length xc) ∧
                  W.cell? ⟨kb, ko + k * 5, none⟩ = some (.string ny) ∧ W.cell? ⟨kb, ko + k * 5 + 1, none⟩ = some (.string ky) ∧ W.cell? ⟨kb, ko + k * 5 + 2, none⟩ = some (.string dy) ∧ W.cell? ⟨kb, ko + k * 5 + 3, none⟩ = some (.bool ey) ∧ W.cell? ⟨kb, ko + k * 5 + 4, none⟩ = some (.slice ya ksy.length yc)) := hidd (fun W hW =>
                ⟨(hW.cell (p := ⟨wo.heap.size, 0, none⟩) (by simp)).trans e0, (hW.cell (p := ⟨wo.heap.size, 1, none⟩) (by simp)).trans e1, (hW.cell (p := ⟨wo.heap.size, 5, none⟩) (by simp)).trans e5,
                 (hW.cell (p := ⟨kb, _, none⟩) (Nat.lt_succ_of_lt hkb)).trans g0, (hW.cell (p := ⟨kb, _, none⟩) (Nat.lt_succ_of_lt hkb)).trans g1, (hW.cell (p := ⟨kb, _, none⟩) (Nat.lt_succ_of_lt hkb)).trans g2, (hW.cell (p := ⟨kb, _, none⟩) (Nat.lt_succ_of_lt hkb)).trans g3, (hW.cell (p := ⟨kb, _, none⟩) (Nat.lt_succ_of_lt hkb)).trans g4⟩)
              have hbo := hown.blk
              have HG : Hid (∀ W', ((wr.alloc (.cells #[.string (px ++ ⟨#[47]⟩ ++ ny), .int .i64 ((dx : Int) + 1), .string ky, .string dy, .bool ey, .slice ya ksy.length yc] 132)).drew).grownBy W' (Value.slice la (i + 1 + k) lc).ownBlock → Below (wo.heap.size + 1) wr W') := hidd (fun W' hg =>
                (((Below.refl _ wr).alloc (by omega) _).drew).grown hg (by simp; omega) (fun g hg => (hbo g hg).1))
              clear e0 e1 e5 g0 g1 g2 g3 g4
              go_region_held3 (fun W => W.cell? ⟨wo.heap.size, 0, none⟩ = some (.string px) ∧ W.cell? ⟨wo.heap.size, 1, none⟩ = some (.int .i64 (dx : Int)) ∧ W.cell? ⟨wo.heap.size, 5, none⟩ = some (.slice (some ⟨kb, ko, none⟩) ksx.length xc) ∧
                  W.cell? ⟨kb, ko + k * 5, none⟩ = some (.string ny) ∧ W.cell? ⟨kb, ko + k * 5 + 1, none⟩ = some (.string ky) ∧ W.cell? ⟨kb, ko + k * 5 + 2, none⟩ = some (.string dy) ∧ W.cell? ⟨kb, ko + k * 5 + 3, none⟩ = some (.bool ey) ∧ W.cell? ⟨kb, ko + k * 5 + 4, none⟩ = some (.slice ya ksy.length yc))
                (first | exact HC.out _ (Below.refl _ wr).drew | exact HC.out _ (((Below.refl _ wr).alloc (by omega) _).drew) | exact HC.out _ (HG.out _ hg3) | (trace_state; fail))
                ((refine step_append_tr (by rfl) (.tmp 53) (.tmp 76) 129 129 (by rfl) (fun g => wo.heap.size < g) (fun g hg => by simp at hg; omega) 132 i0 _ 6 88 Tryz.underlying129 hi hz0 hz1 hz2 rfl (by decide) _ _ _ (by rfl) ((hown.alloc _).drew) _ _ _ (by rfl) hs2 (by unfold maxLen; omega) (by omega) ?_; intro v3 w3 ho3 hg3))
              have hb3 := hbi.trans (HG.out _ hg3)
              have HOW : Hid (Ow (fun g => wo.heap.size < g) w3 132 6 v3 (i + 1 + (k + 1)) (itcells (done ++ [⟨px, dx, .mk kx dax ex' (.slice (some ⟨kb, ko, none⟩) ksx.length xc) ksx⟩] ++ kidsOf (k + 1) ⟨px, dx, .mk kx dax ex' (.slice (some ⟨kb, ko, none⟩) ksx.length xc) ksx⟩))) := hidd (by
                rw [HKS.out, ← List.append_assoc, itcells_app]
                exact ho3)
              clear ho3 hg3 HG HC hs2 hbo hown
              go_wp2_with fail
              go_roundw
              case rel => exact ⟨k + 1, by omega, by omega, by go_num, HOW.out, hb3⟩
              case measure => simp [intOf]; omega
            · have hkk : k = min (most + 1) ksx.length := by omega
              have hca : Hid (kidsOf k (⟨px, dx, .mk kx dax ex' (.slice xa ksx.length xc) ksx⟩ : It Value) = kidsOf (most + 1) ⟨px, dx, .mk kx dax ex' (.slice xa ksx.length xc) ksx⟩) := hidd (kidsOf_all hkk)
              have hcc : (k < ksx.length ∧ most < k) ∨ ¬ k < ksx.length := by omega
              have HKK := hidd hkk
              clear hgo hkk
              have hrl : r.length = n - (i + 1) := by have := HN.out; omega
              have hbw : Below wo.heap.size wo wr := hbx.trans (hbi.mono (by omega))
              have HND : Hid (∀ v4 w4 m4 xs4, m4 = i + 1 + k + r.length → xs4 = itcells (done ++ [⟨px, dx, .mk kx dax ex' (.slice xa ksx.length xc) ksx⟩] ++ kidsOf k ⟨px, dx, .mk kx dax ex' (.slice xa ksx.length xc) ksx⟩) ++ itcells r → Ow (fun g => w.heap.size ≤ g) w4 132 6 v4 m4 xs4 → wr.grownBy w4 (Value.slice la (i + 1 + k) lc).ownBlock →
                  LoAt w most D L (i + 1) v4 w4 (done ++ [⟨px, dx, .mk kx dax ex' (.slice xa ksx.length xc) ksx⟩]) (kidsOf (most + 1) ⟨px, dx, .mk kx dax ex' (.slice xa ksx.length xc) ksx⟩ ++ r)) := hidd (fun v4 w4 m4 xs4 hm4 hx4 ho4 hg4 => by
                subst hm4 hx4
                have hb4 : Below wo.heap.size wo w4 := hbw.trans ((Below.refl _ wr).grown hg4 (by omega) (fun g hg => Nat.le_of_lt (hown.blk g hg).1))
                have hkl : (kidsOf (most + 1) (⟨px, dx, .mk kx dax ex' (.slice xa ksx.length xc) ksx⟩ : It Value)).length = k := by rw [kidsOf_len]; exact HKK.out.symm
                have hmn := h.many
                exact {
                  len := by simp [HLE.out]
                  le := by omega
                  eq := by rw [← h.eq, HLO.out]; simp
                  many := by
                    rw [Nat.add_mul]
                    simp only [List.length_append, List.length_cons, List.length_nil] at hmn ⊢
                    rw [hkl]; omega
                  ok := fun y hy => by
                    rcases List.mem_append.1 hy with hy | hy
                    · exact (h.ok y (by
                        rcases List.mem_append.1 hy with hy | hy
                        · exact List.mem_append_left _ hy
                        · simp only [List.mem_cons, List.not_mem_nil, or_false] at hy; subst hy; simp)).ob hb4
                    · rcases List.mem_append.1 hy with hy | hy
                      · exact (hxo.kid (by simp only; omega) y hy).ob hb4
                      · exact (h.ok y (by simp [hy])).ob hb4
                  own := by
                    rw [hca.out, ← itcells_app] at ho4
                    have e1 : (done ++ [(⟨px, dx, .mk kx dax ex' (.slice xa ksx.length xc) ksx⟩ : It Value)] ++ (kidsOf (most + 1) (⟨px, dx, .mk kx dax ex' (.slice xa ksx.length xc) ksx⟩ : It Value) ++ r)) = done ++ [⟨px, dx, .mk kx dax ex' (.slice xa ksx.length xc) ksx⟩] ++ kidsOf (most + 1) (⟨px, dx, .mk kx dax ex' (.slice xa ksx.length xc) ksx⟩ : It Value) ++ r := by simp
                    have e2 : (done ++ [(⟨px, dx, .mk kx dax ex' (.slice xa ksx.length xc) ksx⟩ : It Value)] ++ kidsOf (most + 1) (⟨px, dx, .mk kx dax ex' (.slice xa ksx.length xc) ksx⟩ : It Value) ++ r).length = i + 1 + k + r.length := by
                      simp only [List.length_append, List.length_cons, List.length_nil]
                      rw [hkl, HLE.out]
                    rw [e1, e2]; exact ho4
                  bel := h.bel.trans (hb4.mono h.bel.size) })
              have hrok : ∀ y ∈ r, ItOk wr D y := fun y hy => (h.ok y (by simp [hy])).ob hbw
              have hslb : Sl wr (.slice (some ⟨b, off, none⟩) n vc) (itcells (done ++ ⟨px, dx, .mk kx dax ex' (.slice xa ksx.length xc) ksx⟩ :: r)) n 6 := by rw [← HN.out]; exact hs0.ob (B := wo.heap.size + 1) hbi (by rw [hzx]; exact Nat.le_refl _)
              have hownw := hown.mono (F' := fun g => w.heap.size ≤ g) (fun g hg => by omega)
              have hml : vc ≤ maxLen := by
                obtain ⟨a', c', he, _, _, h2, _⟩ := hslb
                simp only [Value.slice.injEq] at he
                omega
              have HSR : Hid ((vc = i + 1 → ∀ A C, C ≤ maxLen → Src Tryz.prog 6 129 (.slice A 0 C) 0 (itcells r) wr) ∧ (i + 1 < vc → Src Tryz.prog 6 129 (.slice (some ⟨b, off + (i + 1) * 6, none⟩) (n - (i + 1)) (vc - (i + 1))) r.length (itcells r) wr)) := hidd ⟨fun e A C hC => by
                  have hr0 : r.length = 0 := by omega
                  have hr1 := List.eq_nil_of_length_eq_zero hr0
                  rw [hr1]
                  exact Src.sl Tryz.underlying129 (Sl.empty wr A C 6 hC) (fun u hu => by cases hu),
                fun e => by
                  have hd := hslb.dropN (k := i + 1) (by omega)
                  rw [itcells_drop, ← HLE.out, drop_mid, HLE.out] at hd
                  rw [← hrl] at hd ⊢
                  exact Src.sl Tryz.underlying129 hd (one_itcells _ _ D hrok)⟩
              have hnle : i + 1 ≤ n := by omega
              have HRL := hidd hrl
              clear hrl
              have hvv : vc = i + 1 ∨ i + 1 < vc := by omega
              clear hslb hrok h hxo hok1 hown1 hs0 hs1 hsr1 hq hqi e0 e1 ho2 hg2 hb12 hown hbw
              rcases hcc with ⟨z1, z2⟩ | z1
              · have q5 : decide (k < ksx.length) = true := by simp; omega
                have q6 : decide ((k : Int) ≤ (most : Int)) = false := by simp; omega
                have q6' : decide (k ≤ most) = false := by simp; omega
                rcases hvv with hvc | hvc
                · subst hvc
                  have hm0 : (0 : Nat) ≤ maxLen := Nat.zero_le _
                  go_wp2_with (at_builtin; refine wpList_append_ow _ rfl _ _ 129 129 rfl (fun g => w.heap.size ≤ g) ?cF 132 i0 _ 6 88 Tryz.underlying129 hi hz0 hz1 hz2 rfl (by decide) _ _ _ rfl hownw _ _ _ rfl (HSR.out.1 rfl _ _ (by first | exact Nat.zero_le _ | (unfold maxLen at hml ⊢; omega))) ?c3 ?c4 ?_)
                  case cF => intro g hg; omega
                  case c3 => (have := HRL.out; unfold maxLen; omega)
                  case c4 => (have := HRL.out; omega)
                  intro v4 w4 ho4 hg4
                  have HF := hidd (HND.out _ _ _ _ (by have := HRL.out; omega) (by simp [itcells]) ho4 hg4)
                  clear ho4 hg4 HND HSR
                  go_wp2_with fail
                  go_roundw
                  case rel => exact ⟨i + 1, _, _, by go_num, HF.out⟩
                  case measure => simp [intOf]; omega
                · have q7 : ¬ (vc = i + 1) := by omega
                  have q8 : ((vc : Int) == (i : Int) + 1) = false := by simp; omega
                  go_wp2_with (at_builtin; refine wpList_append_ow _ rfl _ _ 129 129 rfl (fun g => w.heap.size ≤ g) ?cF 132 i0 _ 6 88 Tryz.underlying129 hi hz0 hz1 hz2 rfl (by decide) _ _ _ rfl hownw _ _ _ rfl (HSR.out.2 hvc) ?c3 ?c4 ?_)
                  case cF => intro g hg; omega
                  case c3 => (have := HRL.out; unfold maxLen; omega)
                  case c4 => (have := HRL.out; omega)
                  intro v4 w4 ho4 hg4
                  have HF := hidd (HND.out _ _ _ _ (by have := HRL.out; omega) (by simp [itcells]) ho4 hg4)
                  clear ho4 hg4 HND HSR
                  go_wp2_with fail
                  go_roundw
                  case rel => exact ⟨i + 1, _, _, by go_num, HF.out⟩
                  case measure => simp [intOf]; omega
              · have q5 : decide (k < ksx.length) = false := by simp; omega
                rcases hvv with hvc | hvc
                · subst hvc
                  have hm0 : (0 : Nat) ≤ maxLen := Nat.zero_le _
                  go_wp2_with (at_builtin; refine wpList_append_ow _ rfl _ _ 129 129 rfl (fun g => w.heap.size ≤ g) ?cF 132 i0 _ 6 88 Tryz.underlying129 hi hz0 hz1 hz2 rfl (by decide) _ _ _ rfl hownw _ _ _ rfl (HSR.out.1 rfl _ _ (by first | exact Nat.zero_le _ | (unfold maxLen at hml ⊢; omega))) ?c3 ?c4 ?_)
                  case cF => intro g hg; omega
                  case c3 => (have := HRL.out; unfold maxLen; omega)
                  case c4 => (have := HRL.out; omega)
                  intro v4 w4 ho4 hg4
                  have HF := hidd (HND.out _ _ _ _ (by have := HRL.out; omega) (by simp [itcells]) ho4 hg4)
                  clear ho4 hg4 HND HSR
                  go_wp2_with fail
                  go_roundw
                  case rel => exact ⟨i + 1, _, _, by go_num, HF.out⟩
                  case measure => simp [intOf]; omega
                · have q7 : ¬ (vc = i + 1) := by omega
                  have q8 : ((vc : Int) == (i : Int) + 1) = false := by simp; omega
                  go_wp2_with (at_builtin; refine wpList_append_ow _ rfl _ _ 129 129 rfl (fun g => w.heap.size ≤ g) ?cF 132 i0 _ 6 88 Tryz.underlying129 hi hz0 hz1 hz2 rfl (by decide) _ _ _ rfl hownw _ _ _ rfl (HSR.out.2 hvc) ?c3 ?c4 ?_)
                  case cF => intro g hg; omega
                  case c3 => (have := HRL.out; unfold maxLen; omega)
                  case c4 => (have := HRL.out; omega)
                  intro v4 w4 ho4 hg4
                  have HF := hidd (HND.out _ _ _ _ (by have := HRL.out; omega) (by simp [itcells]) ho4 hg4)
                  clear ho4 hg4 HND HSR
                  go_wp2_with fail
                  go_roundw
                  case rel => exact ⟨i + 1, _, _, by go_num, HF.out⟩
                  case measure => simp [intOf]; omega
      · have hi1 : i = most + 1 := by omega
        have HE : Hid (done ++ x :: r = L) := hidd (by
          have := h.eq
          rw [show most + 1 - i = 0 by omega, lo] at this
          exact this)
        have HP : Hid (ListP L D w (.returned (.slice va (i + 1 + r.length) vc)) wr) := hidd (by
          refine ⟨_, rfl, ?_, ?_, ?_, h.bel⟩
          · rw [← HE.out]; exact hn
          · rw [← HE.out]; have := h.own; rw [hnn] at this ⊢; exact this
          · rw [← HE.out]; exact h.ok)
        rw [hnn] at hn ⊢
        have hin : i < i + 1 + r.length := by omega
        generalize i + 1 + r.length = n at *
        have q1 : decide (i < n) = true := by simp; omega
        have q2 : decide ((i : Int) ≤ (most : Int)) = false := by simp; omega
        have q2' : decide (i ≤ most) = false := by simp; omega
        clear h hmul hnn hlen hz hi1 hle
        go_wp2_with fail
        go_ret
        exact HP.out
end Go.Proofs.YtoemahhpheobkaaGreatDoor

namespace Go.Proofs.YtoemahhpheobkaaGreatDoor
open Go.RowKit Go.Shelf

def smallIt (x : It Value) : Prop := x.deep ≤ 11 ∧ (x.n.data.size ≤ 100 ∨ x.n.data.size = 2001) ∧ x.n.kind.size ≤ 20 ∧ ∀ k ∈ x.n.kids, k.1.size ≤ 30
/-- What LargeNode says. -/
def LargeP (most : Nat) (t : Lt) (w : World) (e : Ending) (w' : World) : Prop :=
  ((e = .returned (.int .i64 0) ∧ Small most t) ∨ e = .returned (.int .i64 1)) ∧ Below w.heap.size w w'

/-- What LargeNode looks at. -/
def SmallL (most : Nat) (t : Lt) : Prop := (listOf most 12 t).length ≤ most ∧ ∀ x ∈ listOf most 12 t, smallIt x
theorem SmallL.small {most : Nat} {t : Lt} (h : SmallL most t) : Small most t := small_of most t h.1 h.2
/-- What LargeNode says, just when. -/
def LargeF (most : Nat) (t : Lt) (w : World) (e : Ending) (w' : World) : Prop :=
  ((e = .returned (.int .i64 0) ∧ SmallL most t) ∨ (e = .returned (.int .i64 1) ∧ ¬ SmallL most t)) ∧ Below w.heap.size w w'

set_option maxRecDepth 100000 in
set_option maxHeartbeats 40000000 in
theorem large_fn (t : Lt) (most : Nat) (w : World) (ht : t.Ok w) (hm : most ≤ 300) :
    Calls Tryz.prog 28 #[nval t, .int .i64 (most : Int)] w (LargeF most t w) := by
  obtain ⟨a, cap, hv⟩ := ht.shape
  have hB0 : Below w.heap.size w (w.alloc (.cells #[.string t.kind, .string t.data, .bool t.exec, .slice a t.kids.length cap] 32)) := (Below.refl _ _).alloc (Nat.le_refl _) _
  have hC := listOf_any t most 12 _ (ht.ob hB0) hm (by omega)
  obtain ⟨L, hL⟩ : ∃ L, listOf most 12 t = L := ⟨_, rfl⟩
  have HSL : Hid (SmallL most t ↔ L.length ≤ most ∧ ∀ x ∈ L, smallIt x) := hidd (by unfold SmallL; rw [hL])
  rw [hL] at hC
  unfold nval at hC ⊢
  rw [hv] at hC ⊢
  have HC := hidd hC
  clear hC hv ht hL
  go_enter Tryz.func28, Tryz.ntmps28
  go_wp2_with fail
  refine HC.out.mono ?_
  rintro e w2 ⟨v, rfl, hmany, hown, hok, hb2⟩
  have hB2 := hB0.trans (hb2.mono hB0.size)
  obtain ⟨va, vc, rfl⟩ := hown.shape
  clear hb2 HC hB0
  by_cases hbig : most < L.length
  · have d1 : decide ((most : Int) < (L.length : Int)) = true := decide_eq_true (by omega)
    have d1' : decide (most < L.length) = true := decide_eq_true hbig
    clear hown hok
    have HNS : Hid (¬ SmallL most t) := hidd (fun h => by have := (HSL.out.1 h).1; omega)
    go_wp2_with fail
    go_ret
    exact ⟨.inr ⟨rfl, HNS.out⟩, hB2⟩
  have d1 : decide ((most : Int) < (L.length : Int)) = false := decide_eq_false (by omega)
  have d1' : decide (most < L.length) = false := decide_eq_false hbig
  go_wp2_with fail
  go_loopw [6] (fun s wr => ∃ i : Nat, i ≤ L.length ∧ s = .int .i64 (i : Int) ∧ (∀ x ∈ L.take i, smallIt x) ∧ Below w2.heap.size w2 wr) (fun s _ => L.length - (intOf s).toNat)
  case atStart => exact ⟨0, Nat.zero_le _, rfl, by simp, Below.refl _ _⟩
  case round =>
    obtain ⟨i, hi, rfl, hall, hbel⟩ := hrel
    have hsl := (hown.ob hbel).sl
    have hBr := hB2.trans (hbel.mono hB2.size)
    by_cases hlt : i < L.length
    · obtain ⟨b, off, rfl, hb, c0, c1, c2, c3, c4, c5⟩ := sl_at6 hsl hlt
      have hxo := (hok _ (List.getElem_mem hlt)).ob hbel
      have hts := List.take_succ_eq_append_getElem hlt
      have hmem := List.getElem_mem hlt
      have p1 : (0 : Int) ≤ (i : Int) := by omega
      have p2 : (i : Int) < (L.length : Int) := by omega
      generalize L[i] = x at *
      obtain ⟨xa, xc, hxv⟩ := hxo.ok.shape
      obtain ⟨px, dx, ⟨kx, dax, ex, vx, ksx⟩⟩ := x
      have hxk := hxo.ok
      simp only [Tr.v, Tr.kids, Tr.kind, Tr.data, Tr.exec] at hxv c0 c1 c2 c3 c4 c5 hxk
      subst hxv
      have hdp := hxo.deep
      simp only at hdp
      have hkl := hxk.le
      simp only [Tr.kids] at hkl
      have HTS := hidd hts
      have hq := Blk.new wr [.string px, .int .i64 (dx : Int), .string kx, .string dax, .bool ex, .slice xa ksx.length xc] 132
      have hB3 : Below wr.heap.size wr (wr.alloc (.cells #[.string px, .int .i64 (dx : Int), .string kx, .string dax, .bool ex, .slice xa ksx.length xc] 132)) := (Below.refl _ _).alloc (Nat.le_refl _) _
      have hB3' := hBr.trans (hB3.mono hBr.size)
      have hxk3 := hxk.ob hB3
      have HNB : Hid (¬ smallIt _ → ¬ SmallL most t) := hidd (fun h hs => h ((HSL.out.1 hs).2 _ hmem))
      clear hts hxo hxk hmem
      by_cases g1 : 11 < dx
      · have e1 : decide ((11 : Int) < (dx : Int)) = true := decide_eq_true (by omega)
        have HNS := hidd (HNB.out (fun h => by have := h.1; simp only at this; omega))
        clear hq hxk3 hall hsl
        go_wp2_with fail
        go_ret
        exact ⟨.inr ⟨rfl, HNS.out⟩, hB3'⟩
      have e1 : decide ((11 : Int) < (dx : Int)) = false := decide_eq_false (by omega)
      by_cases g2 : 100 < dax.size ∧ dax.size ≠ 2001
      · obtain ⟨g2, g2'⟩ := g2
        have e2 : decide ((100 : Int) < (dax.size : Int)) = true := decide_eq_true (by omega)
        have e3 : ((dax.size : Int) == 2001) = false := by simp; omega
        have HNS := hidd (HNB.out (fun h => by have := h.2.1; simp only [Tr.data] at this; omega))
        clear hq hxk3 hall hsl
        go_wp2_with fail
        go_ret
        exact ⟨.inr ⟨rfl, HNS.out⟩, hB3'⟩
      have e23 : decide ((100 : Int) < (dax.size : Int)) = false ∨ (decide ((100 : Int) < (dax.size : Int)) = true ∧ (dax.size : Int) = 2001) := by
        by_cases h : 100 < dax.size
        · exact .inr ⟨decide_eq_true (by omega), by omega⟩
        · exact .inl (decide_eq_false (by omega))
      have hdd : dax.size ≤ 100 ∨ dax.size = 2001 := by omega
      have HDD := hidd hdd
      clear g2 hdd
      by_cases g4 : 20 < kx.size
      · have e4 : decide ((20 : Int) < (kx.size : Int)) = true := decide_eq_true (by omega)
        have HNS := hidd (HNB.out (fun h => by have := h.2.2.1; simp only [Tr.kind] at this; omega))
        clear hq hxk3 hall hsl
        rcases e23 with e2 | ⟨e2, e3⟩
        all_goals
          go_wp2_with fail
          go_ret
          exact ⟨.inr ⟨rfl, HNS.out⟩, hB3'⟩
      have e4 : decide ((20 : Int) < (kx.size : Int)) = false := decide_eq_false (by omega)
      have hi1 : i + 1 ≤ L.length := hlt
      obtain ⟨wo, hwo⟩ : ∃ wo : World, wo = wr := ⟨_, rfl⟩
      subst hwo
      rcases e23 with e2 | ⟨e2, e3⟩
      all_goals
        go_wp2_with fail
        go_loopw [8] (fun s wi => ∃ k : Nat, k ≤ ksx.length ∧ s = .int .i64 (k : Int) ∧ (∀ y ∈ ksx.take k, y.1.size ≤ 30) ∧ Below (wo.heap.size + 1) (wo.alloc (.cells #[.string px, .int .i64 (dx : Int), .string kx, .string dax, .bool ex, .slice xa ksx.length xc] 132)) wi) (fun s _ => ksx.length - (intOf s).toNat)
        case atStart => exact ⟨0, Nat.zero_le _, rfl, by simp, Below.refl _ _⟩
        case round =>
          obtain ⟨k, hk, rfl, hnm, hbi⟩ := hrel
          have hzx : (wo.alloc (.cells #[.string px, .int .i64 (dx : Int), .string kx, .string dax, .bool ex, .slice xa ksx.length xc] 132)).heap.size = wo.heap.size + 1 := by simp
          have hqi := hq.below hbi (by omega)
          have q5 := hqi.cell (i := 5) rfl
          have hBi : Below w.heap.size w wr := hB3'.trans (hbi.mono (by have := hBr.size; omega))
          have hxi := hxk3.ob (by rw [hzx]; exact hbi)
          by_cases hkt : k < ksx.length
          · obtain ⟨kb, ko, rfl, hkb, n0, -⟩ := hxi.at5 rfl hkt
            simp only [Tr.kids] at n0
            have hts2 := List.take_succ_eq_append_getElem hkt
            have hym := List.getElem_mem hkt
            have p3 : (0 : Int) ≤ (k : Int) := by omega
            have p4 : (k : Int) < (ksx.length : Int) := by omega
            generalize ksx[k] = y at *
            by_cases g5 : 30 < y.1.size
            · have e5 : decide ((30 : Int) < (y.1.size : Int)) = true := decide_eq_true (by omega)
              have HNS := hidd (HNB.out (fun h => by have := h.2.2.2 y (by simp only [Tr.kids]; exact hym); omega))
              clear hq hxk3 hall hsl hqi hxi hnm hts2 hym
              go_wp2_with fail
              go_ret
              exact ⟨.inr ⟨rfl, HNS.out⟩, hBi⟩
            · have e5 : decide ((30 : Int) < (y.1.size : Int)) = false := decide_eq_false (by omega)
              have HNM : Hid (∀ y' ∈ ksx.take (k + 1), y'.1.size ≤ 30) := hidd (fun y' hy' => by
                rw [hts2] at hy'
                rcases List.mem_append.1 hy' with h | h
                · exact hnm y' h
                · simp only [List.mem_cons, List.not_mem_nil, or_false] at h; subst h; omega)
              clear hnm hts2 hxi hqi hxk3 hall hsl hym
              go_wp2_with fail
              go_roundw
              case rel => exact ⟨k + 1, by omega, by go_num, HNM.out, hbi⟩
              case measure => simp [intOf]; omega
          · have hkl2 : k = ksx.length := by omega
            have HALL : Hid (∀ x ∈ L.take (i + 1), smallIt x) := hidd (fun x hx => by
              rw [HTS.out] at hx
              rcases List.mem_append.1 hx with h | h
              · exact hall x h
              · simp only [List.mem_cons, List.not_mem_nil, or_false] at h
                subst h
                refine ⟨by simp only; omega, HDD.out, by simp only [Tr.kind]; omega, fun y hy => ?_⟩
                simp only [Tr.kids] at hy
                exact hnm y (by rw [hkl2, List.take_of_length_le (Nat.le_refl _)]; exact hy))
            have hbel2 : Below w2.heap.size w2 wr := (hbel.trans (hB3.mono hbel.size)).trans (hbi.mono (by have := hbel.size; omega))
            clear hnm hxi hqi hxk3 hall hsl hkl2 hbi
            go_wp2_with fail
            go_roundw
            case rel => exact ⟨i + 1, hi1, by go_num, HALL.out, hbel2⟩
            case measure => simp [intOf]; omega
    · have hil : i = L.length := by omega
      have HF : Hid (SmallL most t) := hidd (HSL.out.2 ⟨by omega, fun x hx => hall x (by rw [hil, List.take_of_length_le (Nat.le_refl _)]; exact hx)⟩)
      clear hall hil hsl
      go_wp2_with fail
      go_ret
      exact ⟨.inl ⟨rfl, HF.out⟩, hBr⟩
theorem large_any (t : Lt) (most : Nat) (w : World) (ht : t.Ok w) (hm : most ≤ 300) :
    Calls Tryz.prog 28 #[nval t, .int .i64 (most : Int)] w (LargeP most t w) :=
  (large_fn t most w ht hm).mono fun _ _ ⟨h, hb⟩ => ⟨h.elim (fun h => .inl ⟨h.1, h.2.small⟩) (fun h => .inr h.1), hb⟩
end Go.Proofs.YtoemahhpheobkaaGreatDoor
