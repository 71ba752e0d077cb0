/- stillroomlaw1.PathPuts, walked. Condition: the trees are there, the variables read as listed. -/
import Derived.Test.YtbadnmfmncjdjaaGreatDoorPwD
import Derived.Test.YtbadnmfmncjdjaaGreatDoorPs
import Derived.Test.YtbadnmfmncjdjaaGreatDoorTrD
import Derived.Test.YtbadnmfmncjdjaaGreatDoorTrE
import Derived.Test.YtbadnmfmncjdjaaGreatDoorTxt
import Derived.Test.YtbadnmfmncjdjaaGreatDoorPaJ
import Derived.Test.YtbadnmfmncjdjaaGreatDoorPaP
namespace Go.Proofs.YtbadnmfmncjdjaaGreatDoor
open Go.RowKit

/-- A path with a stroke behind it. -/
def sled (s : ByteArray) : ByteArray := if s.toList = [47] then s else s ++ ⟨#[47]⟩
/-- Is none of two paths the beginning of the other one? -/
def apartB (a b : ByteArray) : Bool :=
  if (sled a).size ≤ (sled b).size then !(((sled b).extract 0 (sled a).size).toList == (sled a).toList) else !(((sled a).extract 0 (sled b).size).toList == (sled b).toList)
theorem sled_size (s : ByteArray) : (sled s).size ≤ s.size + 1 := by
  unfold sled; split
  · omega
  · rw [ByteArray.size_append]; exact Nat.le_refl _

set_option maxRecDepth 100000 in
theorem apart_any (a b : ByteArray) (w : World) (ha : a.size ≤ 900) (hb : b.size ≤ 900) :
    Calls Tryz.prog 12 #[.string a, .string b] w fun e w' => e = .returned (.bool (apartB a b)) ∧ Below w.heap.size w w' := by
  have r1 : ¬ (9223372036854775807 < a.size + 1) := by omega
  have r2 : ¬ (9223372036854775807 < b.size + 1) := by omega
  have saz : (a ++ ⟨#[47]⟩ : ByteArray).size = a.size + 1 := by rw [ByteArray.size_append]; rfl
  have sbz : (b ++ ⟨#[47]⟩ : ByteArray).size = b.size + 1 := by rw [ByteArray.size_append]; rfl
  by_cases h1 : a.toList = [47]
  · have e1 : (a.toList == [47]) = true := by simp [h1]
    by_cases h2 : b.toList = [47]
    · have e2 : (b.toList == [47]) = true := by simp [h2]
      by_cases hle : a.size ≤ b.size
      · have p1 : (a.size : Int) ≤ (b.size : Int) := by omega
        have p2 : (a.size : Int) ≤ (b.size : Int) := by omega
        have hsa : sled a = a := by unfold sled; rw [if_pos h1]
        have hsb : sled b = b := by unfold sled; rw [if_pos h2]
        have HV : Hid (apartB a b = !((b.extract 0 a.size).toList == a.toList)) := hidd (by unfold apartB; rw [hsa, hsb, if_pos (by first | exact hle | (rw [saz]; exact hle) | (rw [sbz]; exact hle) | (rw [saz, sbz]; exact hle))])
        clear hsa hsb h1 h2 saz sbz
        go_enter Tryz.func12, Tryz.ntmps12
        go_wp2_with fail
        go_ret
        exact ⟨by rw [HV.out]; rfl, Below.refl _ _⟩
      · have p1 : ¬ ((a.size : Int) ≤ (b.size : Int)) := by omega
        have p1' : (b.size : Int) < (a.size : Int) := by omega
        have p2 : (b.size : Int) ≤ (a.size : Int) := by omega
        have hsa : sled a = a := by unfold sled; rw [if_pos h1]
        have hsb : sled b = b := by unfold sled; rw [if_pos h2]
        have HV : Hid (apartB a b = !((a.extract 0 b.size).toList == b.toList)) := hidd (by unfold apartB; rw [hsa, hsb, if_neg (by first | exact hle | (rw [saz]; exact hle) | (rw [sbz]; exact hle) | (rw [saz, sbz]; exact hle))])
        clear hsa hsb h1 h2 saz sbz
        go_enter Tryz.func12, Tryz.ntmps12
        go_wp2_with fail
        go_ret
        exact ⟨by rw [HV.out]; rfl, Below.refl _ _⟩
    · have e2 : (b.toList == [47]) = false := by simp [h2]
      by_cases hle : a.size ≤ b.size + 1
      · have p1 : (a.size : Int) ≤ ((b.size : Int) + 1) := by omega
        have p2 : (a.size : Int) ≤ ((b.size : Int) + 1) := by omega
        have hsa : sled a = a := by unfold sled; rw [if_pos h1]
        have hsb : sled b = (b ++ ⟨#[47]⟩) := by unfold sled; rw [if_neg h2]
        have HV : Hid (apartB a b = !(((b ++ ⟨#[47]⟩).extract 0 a.size).toList == a.toList)) := hidd (by unfold apartB; rw [hsa, hsb, if_pos (by first | exact hle | (rw [saz]; exact hle) | (rw [sbz]; exact hle) | (rw [saz, sbz]; exact hle))])
        clear hsa hsb h1 h2 saz sbz
        go_enter Tryz.func12, Tryz.ntmps12
        go_wp2_with fail
        go_ret
        exact ⟨by rw [HV.out]; rfl, Below.refl _ _⟩
      · have p1 : ¬ ((a.size : Int) ≤ ((b.size : Int) + 1)) := by omega
        have p1' : ((b.size : Int) + 1) < (a.size : Int) := by omega
        have p2 : ((b.size : Int) + 1) ≤ (a.size : Int) := by omega
        have hsa : sled a = a := by unfold sled; rw [if_pos h1]
        have hsb : sled b = (b ++ ⟨#[47]⟩) := by unfold sled; rw [if_neg h2]
        have HV : Hid (apartB a b = !((a.extract 0 (b.size + 1)).toList == (b ++ ⟨#[47]⟩).toList)) := hidd (by unfold apartB; rw [hsa, hsb, if_neg (by first | exact hle | (rw [saz]; exact hle) | (rw [sbz]; exact hle) | (rw [saz, sbz]; exact hle))]; first | rw [saz] | rw [sbz])
        clear hsa hsb h1 h2 saz sbz
        go_enter Tryz.func12, Tryz.ntmps12
        go_wp2_with fail
        go_ret
        exact ⟨by rw [HV.out]; rfl, Below.refl _ _⟩
  · have e1 : (a.toList == [47]) = false := by simp [h1]
    by_cases h2 : b.toList = [47]
    · have e2 : (b.toList == [47]) = true := by simp [h2]
      by_cases hle : a.size + 1 ≤ b.size
      · have p1 : ((a.size : Int) + 1) ≤ (b.size : Int) := by omega
        have p2 : ((a.size : Int) + 1) ≤ (b.size : Int) := by omega
        have hsa : sled a = (a ++ ⟨#[47]⟩) := by unfold sled; rw [if_neg h1]
        have hsb : sled b = b := by unfold sled; rw [if_pos h2]
        have HV : Hid (apartB a b = !((b.extract 0 (a.size + 1)).toList == (a ++ ⟨#[47]⟩).toList)) := hidd (by unfold apartB; rw [hsa, hsb, if_pos (by first | exact hle | (rw [saz]; exact hle) | (rw [sbz]; exact hle) | (rw [saz, sbz]; exact hle))]; first | rw [saz] | rw [sbz])
        clear hsa hsb h1 h2 saz sbz
        go_enter Tryz.func12, Tryz.ntmps12
        go_wp2_with fail
        go_ret
        exact ⟨by rw [HV.out]; rfl, Below.refl _ _⟩
      · have p1 : ¬ (((a.size : Int) + 1) ≤ (b.size : Int)) := by omega
        have p1' : (b.size : Int) < ((a.size : Int) + 1) := by omega
        have p2 : (b.size : Int) ≤ ((a.size : Int) + 1) := by omega
        have hsa : sled a = (a ++ ⟨#[47]⟩) := by unfold sled; rw [if_neg h1]
        have hsb : sled b = b := by unfold sled; rw [if_pos h2]
        have HV : Hid (apartB a b = !(((a ++ ⟨#[47]⟩).extract 0 b.size).toList == b.toList)) := hidd (by unfold apartB; rw [hsa, hsb, if_neg (by first | exact hle | (rw [saz]; exact hle) | (rw [sbz]; exact hle) | (rw [saz, sbz]; exact hle))])
        clear hsa hsb h1 h2 saz sbz
        go_enter Tryz.func12, Tryz.ntmps12
        go_wp2_with fail
        go_ret
        exact ⟨by rw [HV.out]; rfl, Below.refl _ _⟩
    · have e2 : (b.toList == [47]) = false := by simp [h2]
      by_cases hle : a.size + 1 ≤ b.size + 1
      · have p1 : ((a.size : Int) + 1) ≤ ((b.size : Int) + 1) := by omega
        have p2 : ((a.size : Int) + 1) ≤ ((b.size : Int) + 1) := by omega
        have hsa : sled a = (a ++ ⟨#[47]⟩) := by unfold sled; rw [if_neg h1]
        have hsb : sled b = (b ++ ⟨#[47]⟩) := by unfold sled; rw [if_neg h2]
        have HV : Hid (apartB a b = !(((b ++ ⟨#[47]⟩).extract 0 (a.size + 1)).toList == (a ++ ⟨#[47]⟩).toList)) := hidd (by unfold apartB; rw [hsa, hsb, if_pos (by first | exact hle | (rw [saz]; exact hle) | (rw [sbz]; exact hle) | (rw [saz, sbz]; exact hle))]; first | rw [saz] | rw [sbz])
        clear hsa hsb h1 h2 saz sbz
        go_enter Tryz.func12, Tryz.ntmps12
        go_wp2_with fail
        go_ret
        exact ⟨by rw [HV.out]; rfl, Below.refl _ _⟩
      · have p1 : ¬ (((a.size : Int) + 1) ≤ ((b.size : Int) + 1)) := by omega
        have p1' : ((b.size : Int) + 1) < ((a.size : Int) + 1) := by omega
        have p2 : ((b.size : Int) + 1) ≤ ((a.size : Int) + 1) := by omega
        have hsa : sled a = (a ++ ⟨#[47]⟩) := by unfold sled; rw [if_neg h1]
        have hsb : sled b = (b ++ ⟨#[47]⟩) := by unfold sled; rw [if_neg h2]
        have HV : Hid (apartB a b = !(((a ++ ⟨#[47]⟩).extract 0 (b.size + 1)).toList == (b ++ ⟨#[47]⟩).toList)) := hidd (by unfold apartB; rw [hsa, hsb, if_neg (by first | exact hle | (rw [saz]; exact hle) | (rw [sbz]; exact hle) | (rw [saz, sbz]; exact hle))]; first | rw [saz] | rw [sbz])
        clear hsa hsb h1 h2 saz sbz
        go_enter Tryz.func12, Tryz.ntmps12
        go_wp2_with fail
        go_ret
        exact ⟨by rw [HV.out]; rfl, Below.refl _ _⟩

theorem sled_list {s : ByteArray} {l : List ByteArray} (h : splitOf s = some l) : (sled s).toList = joined l ++ [47] := by
  rcases splitOf_join h with ⟨h1, rfl⟩ | ⟨h1, -, h2⟩
  · unfold sled
    rw [if_pos (by rw [Lib.toList_data]; exact h1), Lib.toList_data, h1]; rfl
  · unfold sled
    rw [if_neg (by rw [Lib.toList_data]; exact h1), Lib.toList_data, ByteArray.data_append, Array.toList_append, h2]
theorem joined_stroke (q : List ByteArray) : ∃ r, joined q ++ [47] = 47 :: r := by
  cases q with
  | nil => exact ⟨[], rfl⟩
  | cons x r => exact ⟨_, rfl⟩
theorem sled_pre {s t : ByteArray} {l m : List ByteArray} (h1 : splitOf s = some l) (h2 : splitOf t = some m) (h : l <+: m) : (sled s).toList <+: (sled t).toList := by
  obtain ⟨q, rfl⟩ := h
  rw [sled_list h1, sled_list h2]
  unfold joined
  rw [List.map_append, joinL_app]
  obtain ⟨r, hr⟩ := joined_stroke q
  unfold joined at hr
  rw [List.append_assoc, hr]
  exact ⟨r, by simp⟩
theorem extract_list (x : ByteArray) (n : Nat) : (x.extract 0 n).toList = x.toList.take n := by
  rw [Lib.toList_data, Lib.toList_data, ByteArray.data_extract]; simp
theorem size_list (x : ByteArray) : x.size = x.toList.length := by rw [Lib.toList_data]; simp
theorem pre_cut {a b : List UInt8} (h : a <+: b) : b.take a.length = a := by obtain ⟨r, rfl⟩ := h; simp
theorem apart_names {s t : ByteArray} {l m : List ByteArray} (h1 : splitOf s = some l) (h2 : splitOf t = some m) (h : apartB s t = true) : ¬ l <+: m ∧ ¬ m <+: l := by
  refine ⟨fun hp => ?_, fun hp => ?_⟩
  · have hq := sled_pre h1 h2 hp
    have hl := hq.length_le
    unfold apartB at h
    rw [if_pos (by rw [size_list, size_list]; exact hl), extract_list, size_list, pre_cut hq] at h
    simp at h
  · have hq := sled_pre h2 h1 hp
    have hl := hq.length_le
    unfold apartB at h
    by_cases hle : (sled s).size ≤ (sled t).size
    · rw [if_pos hle, extract_list] at h
      rw [size_list, size_list] at hle
      have e : (sled t).toList = (sled s).toList := hq.eq_of_length (by omega)
      rw [e, size_list] at h
      simp at h
    · rw [if_neg hle, extract_list, size_list, pre_cut hq] at h
      simp at h
end Go.Proofs.YtbadnmfmncjdjaaGreatDoor

namespace Go.Proofs.YtbadnmfmncjdjaaGreatDoor
open Go.RowKit Go.Shelf

theorem coded_evc2 {E : Nat → Addr} {c : Nat} (h : c ≤ 13) : Coded E (evc E c) c := by
  by_cases h0 : c = 0
  · subst h0; exact .inl ⟨rfl, rfl⟩
  · exact .inr ⟨c - 1, by omega, by omega, if_neg h0⟩
theorem large_num (t : Lt) (most : Nat) (hm : most ≤ 300) : ∃ r : Int, (0 ≤ r ∧ r ≤ 1) ∧ (r = 0 → t.sz ≤ most) ∧ Hid (∀ W, t.Ok W → Calls Tryz.prog 7 #[nval t, .int .i64 (most : Int)] W fun e w' => e = .returned (.int .i64 r) ∧ Below W.heap.size W w') := by
  by_cases h : SmallL most t
  · exact ⟨0, by omega, fun _ => h.small.many, hidd (fun W ht => (large_fn t most W ht hm).mono fun _ _ ⟨k, hb⟩ => ⟨k.elim (fun k => k.1) (fun k => absurd h k.2), hb⟩)⟩
  · exact ⟨1, by omega, fun e => by omega, hidd (fun W ht => (large_fn t most W ht hm).mono fun _ _ ⟨k, hb⟩ => ⟨k.elim (fun k => absurd k.2 h) (fun k => k.1), hb⟩)⟩

theorem getOf_inv {α : Type} {t x : Tr α} {s : ByteArray} (h : getOf t s = .ok x) : treeE t = 0 ∧ ∃ l, splitOf s = some l ∧ atT t l = some x := by
  by_cases h0 : treeE t = 0
  · cases hs : splitOf s with
    | none => rw [getOf_split h0 hs] at h; cases h
    | some l =>
      cases ha : atT t l with
      | none => rw [getOf_none h0 hs ha] at h; cases h
      | some z =>
        rw [getOf_ok h0 hs ha] at h
        obtain rfl := Except.ok.inj h
        exact ⟨h0, l, rfl, ha⟩
  · rw [getOf_err h0] at h; cases h
/-- What a path answers behind a Put of another one. -/
theorem puts_other {T Y X : Nd} {s t : ByteArray} (h : putOf T s X = .ok Y) (ha : apartB s t = true) : (∃ z, getOf T t = .ok z ∧ getOf Y t = .ok z) ∨ ((∃ c, getOf T t = .error c) ∧ ∃ c, getOf Y t = .error c) := by
  obtain ⟨h0, hy, l, hs, hw⟩ := putOf_inv h
  cases ht : splitOf t with
  | none => exact .inr ⟨⟨5, getOf_split h0 ht⟩, 5, getOf_split hy ht⟩
  | some m =>
    obtain ⟨n1, n2⟩ := apart_names hs ht ha
    have he := with_apart hw n1 n2
    cases hz : atT T m with
    | none => exact .inr ⟨⟨6, getOf_none h0 ht hz⟩, 6, getOf_none hy ht (he.trans hz)⟩
    | some z => exact .inl ⟨z, getOf_ok h0 ht hz, getOf_ok hy ht (he.trans hz)⟩
/-- What was put is got; what was dropped is none. -/
theorem puts_law {T Y X : Nd} {s : ByteArray} (h : putOf T s X = .ok Y) : getOf Y s = .ok X ∧ ((dropOf Y s = .error 3 ∧ s.toList = [47]) ∨ ∃ Z, dropOf Y s = .ok Z ∧ getOf Z s = .error 6) := by
  obtain ⟨h0, hy, l, hs, hw⟩ := putOf_inv h
  have hat := with_at hw
  refine ⟨getOf_ok hy hs hat, ?_⟩
  by_cases hl : l = []
  · subst hl
    refine .inl ⟨dropOf_root hy hs, ?_⟩
    rcases splitOf_join hs with ⟨h1, -⟩ | ⟨-, h1, -⟩
    · rw [Lib.toList_data]; exact h1
    · exact absurd rfl h1
  · exact .inr ⟨_, dropOf_ok hy hs hl hat, getOf_none (without_right hy) hs (without_at hl hy hat)⟩

/-- A made tree or an error, in one form. -/
theorem MadeP.parts {E : Nat → Addr} {R : Except Nat Nd} {w : World} {e : Ending} {w' : World} (h : MadeP E R w e w') : ∃ (ky dy : ByteArray) (ey : Bool) (ya : Option Addr) (yc : Nat) (ksy : List (ByteArray × Lt)) (er : Value),
    e = .returned (.tuple #[.agg #[.string ky, .string dy, .bool ey, .slice ya ksy.length yc], er]) ∧ Below w.heap.size w w' ∧
    Hid ((∃ c, R = .error c ∧ c ≠ 0 ∧ er = evc E c ∧ ky = ⟨#[]⟩ ∧ ksy = []) ∨ (R = .ok (Tr.mk ky dy ey (.slice ya ksy.length yc) ksy : Lt).bare ∧ er = .nilIface ∧ (Tr.mk ky dy ey (.slice ya ksy.length yc) ksy : Lt).Ok w' ∧ (Tr.mk ky dy ey (.slice ya ksy.length yc) ksy : Lt).In (fun b => w.heap.size ≤ b ∧ b < w'.heap.size))) := by
  obtain ⟨hb, ⟨c, hc, hc0, -, rfl⟩ | ⟨y, hy, rfl, ho, hi⟩⟩ := h
  · exact ⟨⟨#[]⟩, ⟨#[]⟩, false, none, 0, [], evc E c, rfl, hb, .inl ⟨c, hc, hc0, rfl, rfl, rfl⟩⟩
  · obtain ⟨ya, yc, hyv⟩ := ho.shape
    obtain ⟨ky, dy, ey, vy, ksy⟩ := y
    simp only [Tr.v, Tr.kids] at hyv
    subst hyv
    exact ⟨ky, dy, ey, ya, yc, ksy, .nilIface, rfl, hb, .inr ⟨hy, rfl, ho, hi⟩⟩
/-- The same of what path.Get gives. -/
theorem GetP.parts {E : Nat → Addr} {t : Lt} {s : ByteArray} {w : World} {e : Ending} {w' : World} (h : GetP E t s w e w') : ∃ (ky dy : ByteArray) (ey : Bool) (ya : Option Addr) (yc : Nat) (ksy : List (ByteArray × Lt)) (er : Value),
    e = .returned (.tuple #[.agg #[.string ky, .string dy, .bool ey, .slice ya ksy.length yc], er]) ∧ Below w.heap.size w w' ∧
    Hid ((∃ c, getOf t.bare s = .error c ∧ c ≠ 0 ∧ c ≤ 10 ∧ er = evc E c) ∨ (getOf t.bare s = .ok (Tr.mk ky dy ey (.slice ya ksy.length yc) ksy : Lt).bare ∧ er = .nilIface ∧ (Tr.mk ky dy ey (.slice ya ksy.length yc) ksy : Lt).Ok w')) := by
  obtain ⟨hb, ⟨c, hc, hc0, hc10, rfl⟩ | ⟨x, y, hx, -, rfl, hbr, ho, -⟩⟩ := h
  · exact ⟨⟨#[]⟩, ⟨#[]⟩, false, none, 0, [], evc E c, rfl, hb, .inl ⟨c, by unfold Tr.bare; rw [getOf_map, hc]; rfl, hc0, hc10, rfl⟩⟩
  · obtain ⟨ya, yc, hyv⟩ := ho.shape
    obtain ⟨ky, dy, ey, vy, ksy⟩ := y
    simp only [Tr.v, Tr.kids] at hyv
    subst hyv
    exact ⟨ky, dy, ey, ya, yc, ksy, .nilIface, rfl, hb, .inr ⟨by rw [hbr]; unfold Tr.bare; rw [getOf_map, hx]; rfl, rfl, ho⟩⟩

/-- What holds between the calls. -/
structure PpK (E : Nat → Addr) (B : Nat) (w : World) (a b : Lt) (W : World) : Prop where
  below : Below w.heap.size w W
  oa : a.Ok W
  ob : b.Ok W
  env : Env codeGs B W E
  hnd : Hnd W
  ml : Ml W
  ba : Blk W w.heap.size (ncells a) 24
  bb : Blk W (w.heap.size + 1) (ncells b) 24
/-- And an own tree. -/
structure PqK (E : Nat → Addr) (B : Nat) (w : World) (a b x : Lt) (px : Nat) (W : World) : Prop extends PpK E B w a b W where
  ox : x.Ok W
  bx : Blk W px (ncells x) 24
section
variable {E : Nat → Addr} {B : Nat} {w W W' : World} {a b x : Lt} {px : Nat}
theorem PpK.later (h : PpK E B w a b W) (hb : Below W.heap.size W W') : PpK E B w a b W' :=
  ⟨h.below.trans (hb.mono h.below.size), h.oa.ob hb, h.ob.ob hb, h.env.ob hb, h.hnd.below hb (Nat.le_refl _), h.ml.ob hb, h.ba.below hb h.ba.lt, h.bb.below hb h.bb.lt⟩
theorem PqK.later (h : PqK E B w a b x px W) (hb : Below W.heap.size W W') : PqK E B w a b x px W' := ⟨h.toPpK.later hb, h.ox.ob hb, h.bx.below hb h.bx.lt⟩
theorem PpK.drew (h : PpK E B w a b W) : PpK E B w a b W.drew := h.later ((Below.refl _ _).drew)
theorem PpK.alloc (h : PpK E B w a b W) (o : Obj) : PpK E B w a b (W.alloc o) := h.later ((Below.refl _ _).alloc (Nat.le_refl _) o)
theorem PqK.alloc (h : PqK E B w a b x px W) (o : Obj) : PqK E B w a b x px (W.alloc o) := h.later ((Below.refl _ _).alloc (Nat.le_refl _) o)
theorem PqK.drew (h : PqK E B w a b x px W) : PqK E B w a b x px W.drew := h.later ((Below.refl _ _).drew)
theorem PpK.c {ka da kb db : ByteArray} {ea eb : Bool} {va vb : Value} {ksa ksb : List (ByteArray × Lt)} (h : PpK E B w (.mk ka da ea va ksa) (.mk kb db eb vb ksb) W) :
    W.cell? ⟨w.heap.size, 0, none⟩ = some (.string ka) ∧ W.cell? ⟨w.heap.size, 1, none⟩ = some (.string da) ∧ W.cell? ⟨w.heap.size, 2, none⟩ = some (.bool ea) ∧ W.cell? ⟨w.heap.size, 3, none⟩ = some va ∧
    W.cell? ⟨w.heap.size + 1, 0, none⟩ = some (.string kb) ∧ W.cell? ⟨w.heap.size + 1, 1, none⟩ = some (.string db) ∧ W.cell? ⟨w.heap.size + 1, 2, none⟩ = some (.bool eb) ∧ W.cell? ⟨w.heap.size + 1, 3, none⟩ = some vb :=
  ⟨h.ba.cell (i := 0) rfl, h.ba.cell (i := 1) rfl, h.ba.cell (i := 2) rfl, h.ba.cell (i := 3) rfl, h.bb.cell (i := 0) rfl, h.bb.cell (i := 1) rfl, h.bb.cell (i := 2) rfl, h.bb.cell (i := 3) rfl⟩
theorem PqK.c2 {kx dx kb db : ByteArray} {ex eb : Bool} {vx vb : Value} {ksx ksb : List (ByteArray × Lt)} (h : PqK E B w a (.mk kb db eb vb ksb) (.mk kx dx ex vx ksx) px W) :
    W.cell? ⟨px, 0, none⟩ = some (.string kx) ∧ W.cell? ⟨px, 1, none⟩ = some (.string dx) ∧ W.cell? ⟨px, 2, none⟩ = some (.bool ex) ∧ W.cell? ⟨px, 3, none⟩ = some vx ∧
    W.cell? ⟨w.heap.size + 1, 0, none⟩ = some (.string kb) ∧ W.cell? ⟨w.heap.size + 1, 1, none⟩ = some (.string db) ∧ W.cell? ⟨w.heap.size + 1, 2, none⟩ = some (.bool eb) ∧ W.cell? ⟨w.heap.size + 1, 3, none⟩ = some vb :=
  ⟨h.bx.cell (i := 0) rfl, h.bx.cell (i := 1) rfl, h.bx.cell (i := 2) rfl, h.bx.cell (i := 3) rfl, h.bb.cell (i := 0) rfl, h.bb.cell (i := 1) rfl, h.bb.cell (i := 2) rfl, h.bb.cell (i := 3) rfl⟩
end
theorem Below.four {B : Nat} {w W : World} (h : Below B w W) {p : Nat} (hp : B ≤ p) (x0 x1 x2 x3 : Value) : Below B w ((((W.setCell ⟨p, 0, none⟩ x0).setCell ⟨p, 1, none⟩ x1).setCell ⟨p, 2, none⟩ x2).setCell ⟨p, 3, none⟩ x3) :=
  (((h.setCell (p := ⟨p, 0, none⟩) hp x0).setCell (p := ⟨p, 1, none⟩) hp x1).setCell (p := ⟨p, 2, none⟩) hp x2).setCell (p := ⟨p, 3, none⟩) hp x3
/-- What stands behind the Put. -/
def PpY (E : Nat → Addr) (B : Nat) (w : World) (a b x : Lt) (px : Nat) (R : Except Nat Nd) (yp er : Value) (W : World) : Prop :=
  ∃ (q : Nat) (ky dy : ByteArray) (ey : Bool) (ya : Option Addr) (yc : Nat) (ksy : List (ByteArray × Lt)), yp = .pointer (some ⟨q, 0, none⟩) ∧ Blk W q [.string ky, .string dy, .bool ey, .slice ya ksy.length yc] 24 ∧ PqK E B w a b x px W ∧
    Hid ((∃ c, R = .error c ∧ c ≠ 0 ∧ er = evc E c ∧ ky = ⟨#[]⟩ ∧ ksy = []) ∨ (R = .ok (Tr.mk ky dy ey (.slice ya ksy.length yc) ksy : Lt).bare ∧ er = .nilIface ∧ (Tr.mk ky dy ey (.slice ya ksy.length yc) ksy : Lt).Ok W))

set_option maxRecDepth 100000 in
set_option maxHeartbeats 40000000 in
theorem pathPuts_true (E : Nat → Addr) (B : Nat) (a : Lt) (s t : ByteArray) (b : Lt) (w : World) (ha : a.Ok w) (_ : s.size ≤ 9223372036854775807) (_ : t.size ≤ 9223372036854775807) (hb : b.Ok w) (hE : Env codeGs B w E) (hh : Hnd w) (hM : Ml w) :
    Calls Tryz.prog 3 #[nval a, .string s, .string t, nval b] w fun e w' => e = .returned (.bool true) ∧ Below w.heap.size w w' := by
  obtain ⟨aa, ac, hav⟩ := ha.shape
  obtain ⟨ba, bc, hbv⟩ := hb.shape
  obtain ⟨ka, da, ea, va, ksa⟩ := a
  obtain ⟨kb, db, eb, vb, ksb⟩ := b
  simp only [Tr.v, Tr.kids] at hav hbv
  subst hav hbv
  have hK0 : PpK E B w (Tr.mk ka da ea (.slice aa ksa.length ac) ksa : Lt) (Tr.mk kb db eb (.slice ba ksb.length bc) ksb : Lt) ((w.alloc (.cells #[.string ka, .string da, .bool ea, .slice aa ksa.length ac] 24)).alloc (.cells #[.string kb, .string db, .bool eb, .slice ba ksb.length bc] 24)) := by
    have hB2 := two_below w #[.string ka, .string da, .bool ea, .slice aa ksa.length ac] #[.string kb, .string db, .bool eb, .slice ba ksb.length bc] 24
    have h1 := Blk.new w [.string ka, .string da, .bool ea, .slice aa ksa.length ac] 24
    have h2 := Blk.new (w.alloc (.cells #[.string ka, .string da, .bool ea, .slice aa ksa.length ac] 24)) [.string kb, .string db, .bool eb, .slice ba ksb.length bc] 24
    rw [show (w.alloc (.cells #[.string ka, .string da, .bool ea, .slice aa ksa.length ac] 24)).heap.size = w.heap.size + 1 by simp] at h2
    exact ⟨hB2, ha.ob hB2, hb.ob hB2, hE.ob hB2, hh.below hB2 (Nat.le_refl _), hM.ob hB2, h1.alloc _, h2⟩
  clear ha hb hE hh hM
  obtain ⟨ra, hra, hra0, HLA⟩ := large_num (Tr.mk ka da ea (.slice aa ksa.length ac) ksa : Lt) 100 (by omega)
  obtain ⟨rb, hrb, hrb0, HLB⟩ := large_num (Tr.mk kb db eb (.slice ba ksb.length bc) ksb : Lt) 60 (by omega)
  have HOA := hidd (fun W (hs : ra = 0) (h : (Tr.mk ka da ea (.slice aa ksa.length ac) ksa : Lt).Ok W) => own_any 300 (Tr.mk ka da ea (.slice aa ksa.length ac) ksa : Lt) W (by have := hra0 hs; omega) (Nat.le_refl _) h)
  have HOB := hidd (fun W (hs : rb = 0) (h : (Tr.mk kb db eb (.slice ba ksb.length bc) ksb : Lt).Ok W) => own_any 300 (Tr.mk kb db eb (.slice ba ksb.length bc) ksb : Lt) W (by have := hrb0 hs; omega) (Nat.le_refl _) h)
  simp only [nval, Tr.kind, Tr.data, Tr.exec, Tr.v, Int.cast_ofNat_Int] at HLA HLB HOA HOB ⊢
  have HK0 := hidd hK0
  clear hK0 hra0 hrb0
  go_enter Tryz.func3, Tryz.ntmps3
  go_wp2_with fail
  refine (pathed_true E B _ HK0.out.env.tr HK0.out.ml).mono ?_
  rintro e w2 ⟨rfl, hb2⟩
  have hK2 := HK0.out.later hb2
  clear HK0 hb2
  go_wp2_with fail
  have hK2d := hK2.drew
  have ew1 : IntKind.i64.wrap (ra + rb) = ra + rb := by rw [IntKind.wrap_i64]; omega
  by_cases hlg : 0 < ra + rb
  · have e0 : decide (0 < ra + rb) = true := decide_eq_true hlg
    obtain ⟨c0, c1, c2, c3, c4, c5, c6, c7⟩ := PpK.c hK2d
    clear HOA HOB hK2 hlg hra hrb
    first
      | (go_region_law (first
          | (go_simp; go_at_call 7; (with_reducible refine (HLA.out _ (PpK.oa (by assumption))).mono ?_); rintro e w' ⟨rfl, hbl⟩; have hq := PpK.later (by assumption) hbl; obtain ⟨d0, d1, d2, d3, d4, d5, d6, d7⟩ := PpK.c hq)
          | (go_simp; go_at_call 7; (with_reducible refine (HLB.out _ (PpK.ob (by assumption))).mono ?_); rintro e w' ⟨rfl, hbl⟩; have hq := PpK.later (by assumption) hbl; obtain ⟨d0, d1, d2, d3, d4, d5, d6, d7⟩ := PpK.c hq)))
      | fail
    all_goals
      go_wp2_with fail
      go_ret
      exact ⟨rfl, PpK.below (by assumption)⟩
  · have hr0 : ra = 0 := by omega
    have hr1 : rb = 0 := by omega
    have e0 : decide (0 < ra + rb) = false := decide_eq_false hlg
    by_cases hs : s.size ≤ 150
    · have e1 : decide ((150 : Int) < (s.size : Int)) = false := decide_eq_false (by omega)
      by_cases htz : t.size ≤ 150
      · have e2 : decide ((150 : Int) < (t.size : Int)) = false := decide_eq_false (by omega)
        first
          | (go_region_held3 (fun W' => W'.cell? ⟨w.heap.size, 0, none⟩ = some (.string ka) ∧ W'.cell? ⟨w.heap.size, 1, none⟩ = some (.string da) ∧ W'.cell? ⟨w.heap.size, 2, none⟩ = some (.bool ea) ∧ W'.cell? ⟨w.heap.size, 3, none⟩ = some (.slice aa ksa.length ac) ∧ W'.cell? ⟨w.heap.size + 1, 0, none⟩ = some (.string kb) ∧ W'.cell? ⟨w.heap.size + 1, 1, none⟩ = some (.string db) ∧ W'.cell? ⟨w.heap.size + 1, 2, none⟩ = some (.bool eb) ∧ W'.cell? ⟨w.heap.size + 1, 3, none⟩ = some (.slice ba ksb.length bc))
              (first | exact PpK.c (by assumption))
              (first
                | (go_at_call 7; (with_reducible refine (HLA.out _ (PpK.oa (by assumption))).mono ?_); rintro e w' ⟨rfl, hbl⟩; have hq := PpK.later (by assumption) hbl)
                | (go_at_call 7; (with_reducible refine (HLB.out _ (PpK.ob (by assumption))).mono ?_); rintro e w' ⟨rfl, hbl⟩; have hq := PpK.later (by assumption) hbl)))
          | fail
        have hq3 := hq
        have HOAf := hidd (HOA.out _ hr0 hq3.oa)
        have HOBf := hidd (fun W h => HOB.out W hr1 h)
        clear HLA HLB hK2 hK2d hq hbl ew1 e0 e1 e2 HOA HOB hrb hra hlg
        obtain ⟨c0, c1, c2, c3, -, -, -, -⟩ := PpK.c hq3
        go_wp2_with fail
        refine HOAf.out.mono ?_
        rintro e w4 ⟨oa, oc, kso, rfl, hbro, hoo, -, hb4⟩
        simp only [Tr.kind, Tr.data, Tr.exec] at hbro hoo ⊢
        have hq5 : PqK E B w (Tr.mk ka da ea (.slice aa ksa.length ac) ksa : Lt) (Tr.mk kb db eb (.slice ba ksb.length bc) ksb : Lt) (.mk ka da ea (.slice oa kso.length oc) kso) w4.heap.size (w4.alloc (.cells #[.string ka, .string da, .bool ea, .slice oa kso.length oc] 24)) :=
          ⟨(hq3.later hb4).alloc _, hoo.alloc _, Blk.new w4 [.string ka, .string da, .bool ea, .slice oa kso.length oc] 24⟩
        have HBRO : Hid ((Tr.mk ka da ea (.slice oa kso.length oc) kso : Lt).bare = (Tr.mk ka da ea (.slice aa ksa.length ac) ksa : Lt).bare) := hidd hbro
        clear hbro hoo hb4 hq3 c0 c1 c2 c3 HOAf
        go_upto_region 5 with fail
        generalize w4.alloc (.cells #[.string ka, .string da, .bool ea, .slice oa kso.length oc] 24) = w5 at *
        generalize w4.heap.size = N1 at *
        obtain ⟨XB, hXB⟩ : ∃ XB, (Tr.mk kb db eb (.slice ba ksb.length bc) ksb : Lt).bare = XB := ⟨_, rfl⟩
        have HXB := hidd hXB
        obtain ⟨TB, hTB⟩ : ∃ TB, (Tr.mk ka da ea (.slice oa kso.length oc) kso : Lt).bare = TB := ⟨_, rfl⟩
        have HTB := hidd hTB
        have HPT := hidd (fun W (x : Lt) (h : Below w5.heap.size w5 W) (hx : x.Ok W) => put_any E B (.mk ka da ea (.slice oa kso.length oc) kso) x s W (hq5.later h).ox hx (hq5.later h).env.tr (hq5.later h).ml (by omega))
        have HSC := hidd (fun W (h : Below w5.heap.size w5 W) => (hq5.later h).c2)
        have HOX := hidd (fun W (h : Below w5.heap.size w5 W) => HOBf.out W (hq5.later h).ob)
        simp only [nval, Tr.kind, Tr.data, Tr.exec, Tr.v] at HPT
        have hb5 : Below w5.heap.size w5 w5.drew := (Below.refl _ _).drew
        have hb5a : Below w5.heap.size w5 (w5.alloc (.cells #[.string ⟨#[]⟩, .string ⟨#[]⟩, .bool false, .slice none 0 0] 24)).drew := ((Below.refl _ _).alloc (Nat.le_refl _) _).drew
        have HQ5 := hidd hq5
        clear hq5 hXB hTB HOBf
        go_cut [11, 12] from 43 to 50 (fun yp er wx => PpY E B w (Tr.mk ka da ea (.slice aa ksa.length ac) ksa : Lt) (Tr.mk kb db eb (.slice ba ksb.length bc) ksb : Lt) (.mk ka da ea (.slice oa kso.length oc) kso) N1 (putOf TB s XB) yp er wx)
        case first =>
          go_region_held3 (fun W' => W'.cell? ⟨N1, 0, none⟩ = some (.string ka) ∧ W'.cell? ⟨N1, 1, none⟩ = some (.string da) ∧ W'.cell? ⟨N1, 2, none⟩ = some (.bool ea) ∧ W'.cell? ⟨N1, 3, none⟩ = some (.slice oa kso.length oc) ∧ W'.cell? ⟨w.heap.size + 1, 0, none⟩ = some (.string kb) ∧ W'.cell? ⟨w.heap.size + 1, 1, none⟩ = some (.string db) ∧ W'.cell? ⟨w.heap.size + 1, 2, none⟩ = some (.bool eb) ∧ W'.cell? ⟨w.heap.size + 1, 3, none⟩ = some (.slice ba ksb.length bc))
            (first | exact HSC.out _ hb5 | exact HSC.out _ hb5a | exact HSC.out _ hb6 | exact HSC.out _ (hb6.alloc hb6.size _) | exact HSC.out _ hb7 | exact HSC.out _ (hb7.alloc hb7.size _) | exact HSC.out _ (Below.four hb7 (Nat.le_refl _) _ _ _ _) | exact HSC.out _ (Below.four hb7 hb6.size _ _ _ _))
            (first
              | (go_at_call 8; (with_reducible refine (HOX.out _ hb5).mono ?_); rintro e w6 ⟨xa, xc, ksx, rfl, hbrx, hxo, -, hb6'⟩; have hb6 := hb5.trans (hb6'.mono (Nat.le_refl _)); try simp only [Tr.kind, Tr.data, Tr.exec] at hbrx; try simp only [Tr.kind, Tr.data, Tr.exec] at hxo; try simp only [Tr.kind, Tr.data, Tr.exec])
              | (go_at_call 8; (with_reducible refine (HOX.out _ hb5a).mono ?_); rintro e w6 ⟨xa, xc, ksx, rfl, hbrx, hxo, -, hb6'⟩; have hb6 := hb5a.trans (hb6'.mono hb5a.size); have hn6 := (Blk.new w5 [.string ⟨#[]⟩, .string ⟨#[]⟩, .bool false, .slice none 0 0] 24).drew.below hb6' (by simp); try simp only [Tr.kind, Tr.data, Tr.exec] at hbrx; try simp only [Tr.kind, Tr.data, Tr.exec] at hxo; try simp only [Tr.kind, Tr.data, Tr.exec])
              | (go_at_call 9; (with_reducible refine (HPT.out _ (.mk kb db eb (.slice xa ksx.length xc) ksx) hb6 hxo).mono ?_); intro e w7 hyy; obtain ⟨ky, dy, ey, ya, yc, ksy, er, he7, hb7', hm7⟩ := hyy.parts; subst he7; have hb7 := hb6.trans (hb7'.mono hb6.size); have hn7 := hn6.below hb7' hn6.lt; have z0 := hn7.cell (i := 0) rfl; have z1 := hn7.cell (i := 1) rfl; have z2 := hn7.cell (i := 2) rfl; have z3 := hn7.cell (i := 3) rfl; have f0 := hn7.frozen 0; have f1 := hn7.frozen 1; have f2 := hn7.frozen 2; have f3 := hn7.frozen 3)
              | (go_at_call 9; (with_reducible refine (HPT.out _ (.mk kb db eb (.slice xa ksx.length xc) ksx) hb6 hxo).mono ?_); intro e w7 hyy; obtain ⟨ky, dy, ey, ya, yc, ksy, er, he7, hb7', hm7⟩ := hyy.parts; subst he7; have hb7 := hb6.trans (hb7'.mono hb6.size))
              | (go_at_call 9; (with_reducible refine (HPT.out _ (.mk kb db eb (.slice xa ksx.length xc) ksx) (hb6.alloc hb6.size _) (hxo.alloc _)).mono ?_); intro e w7 hyy; obtain ⟨ky, dy, ey, ya, yc, ksy, er, he7, hb7', hm7⟩ := hyy.parts; subst he7; have hb7 := (hb6.alloc hb6.size _).trans (hb7'.mono (hb6.alloc hb6.size _).size); have hn7 := (Blk.new w6 [.string ⟨#[]⟩, .string ⟨#[]⟩, .bool false, .slice none 0 0] 24).below hb7' (by simp); have z0 := hn7.cell (i := 0) rfl; have z1 := hn7.cell (i := 1) rfl; have z2 := hn7.cell (i := 2) rfl; have z3 := hn7.cell (i := 3) rfl; have f0 := hn7.frozen 0; have f1 := hn7.frozen 1; have f2 := hn7.frozen 2; have f3 := hn7.frozen 3))
          all_goals
            have HRR : putOf (Tr.mk ka da ea (.slice oa kso.length oc) kso : Lt).bare s (Tr.mk kb db eb (.slice xa ksx.length xc) ksx : Lt).bare = putOf TB s XB := by rw [HTB.out, hbrx, HXB.out]
            rw [HRR] at hm7
            go_wp2_with fail
            go_meet
          · refine ⟨w7.heap.size, ky, dy, ey, ya, yc, ksy, rfl, Blk.new w7 _ _, HQ5.out.later (hb7.alloc hb7.size _), hidd ?_⟩
            rcases hm7.out with h | ⟨h1, h2, h3, h4⟩
            · exact .inl h
            · exact .inr ⟨h1, h2, h3.alloc _⟩
          · refine ⟨w6.heap.size, ky, dy, ey, ya, yc, ksy, rfl, hn7.four, HQ5.out.later (Below.four hb7 hb6.size _ _ _ _), hidd ?_⟩
            rcases hm7.out with h | ⟨h1, h2, h3, h4⟩
            · exact .inl h
            · exact .inr ⟨h1, h2, ok_fr ((Fr.refl (fun b => b = w6.heap.size) w7).four (p := w6.heap.size) (.inl rfl) _ _ _ _) _ h3 (in_mono (fun b hb e => by simp at hb; omega) _ h4)⟩
          · refine ⟨w5.heap.size, ky, dy, ey, ya, yc, ksy, rfl, hn7.four, HQ5.out.later (Below.four hb7 (Nat.le_refl _) _ _ _ _), hidd ?_⟩
            have hn6l := hn6.lt
            rcases hm7.out with h | ⟨h1, h2, h3, h4⟩
            · exact .inl h
            · exact .inr ⟨h1, h2, ok_fr ((Fr.refl (fun b => b = w5.heap.size) w7).four (p := w5.heap.size) (.inl rfl) _ _ _ _) _ h3 (in_mono (fun b hb e => by omega) _ h4)⟩
        case rest =>
          obtain ⟨q, ky, dy, ey, ya, yc, ksy, rfl, hby, hqy, hm⟩ := hcut
          have y0 := hby.cell (i := 0) rfl
          have y1 := hby.cell (i := 1) rfl
          have y2 := hby.cell (i := 2) rfl
          have y3 := hby.cell (i := 3) rfl
          rcases hm.out with ⟨c, hc, hc0, rfl, rfl, rfl⟩ | ⟨hr, rfl, hyo⟩
          · rw [evc_ne hc0]
            have hB8 := hqy.below
            clear hc hm hqy hby HQ5 HPT HSC HOX hb5 hb5a
            go_wp2_with fail
            go_ret
            exact ⟨rfl, hB8⟩
          · obtain ⟨hgt, hdr⟩ := puts_law hr
            have HGT := hidd hgt
            have HDR := hidd hdr
            have HR := hidd hr
            have HGY := hidd (get_any E B (.mk ky dy ey (.slice ya ksy.length yc) ksy) s _ hyo hqy.env.tr hqy.ml (by omega))
            simp only [nval, Tr.kind, Tr.data, Tr.exec, Tr.v] at HGY
            clear hgt hdr hr hm HPT HSC HOX hb5 hb5a HQ5
            go_wp2_with fail
            refine HGY.out.mono ?_
            intro e w9 hgg
            obtain ⟨kg, dg, eg, ga, gc, ksg, erg, he9, hb9, hmg⟩ := hgg.parts
            subst he9
            obtain ⟨hgb, rfl, hgo⟩ : (Tr.mk kg dg eg (.slice ga ksg.length gc) ksg : Lt).bare = XB ∧ erg = .nilIface ∧ (Tr.mk kg dg eg (.slice ga ksg.length gc) ksg : Lt).Ok w9 := by
              rcases hmg.out with ⟨c, hc, -⟩ | ⟨h1, h2, h3⟩
              · rw [HGT.out] at hc; cases hc
              · rw [HGT.out] at h1; exact ⟨(Except.ok.inj h1).symm, h2, h3⟩
            have hq9 := hqy.later hb9
            have hby9 := hby.below hb9 hby.lt
            have hyo9 := hyo.ob hb9
            have hBa : Below w9.heap.size w9 (w9.alloc (.cells #[.string kg, .string dg, .bool eg, .slice ga ksg.length gc] 24)) := (Below.refl _ _).alloc (Nat.le_refl _) _
            have hq10 := hq9.later hBa
            have hby10 := hby9.below hBa hby9.lt
            have hyo10 := hyo9.ob hBa
            have hbg := Blk.new w9 [.string kg, .string dg, .bool eg, .slice ga ksg.length gc] 24
            have HSM := hidd (same_any (.mk kg dg eg (.slice ga ksg.length gc) ksg) (Tr.mk kb db eb (.slice ba ksb.length bc) ksb : Lt) _ true (hgo.ob hBa) hq10.ob ⟨fun _ => hgb.trans HXB.out.symm, fun _ => rfl⟩)
            simp only [nval, Tr.kind, Tr.data, Tr.exec, Tr.v] at HSM
            clear y0 y1 y2 y3 hqy hby hyo hq9 hby9 hyo9 hgg hmg hgb hgo hb9 HGY
            go_upto_region 9 with fail
            generalize w9.alloc (.cells #[.string kg, .string dg, .bool eg, .slice ga ksg.length gc] 24) = wA at *
            generalize w9.heap.size = N2 at *
            have g0 := hbg.cell (i := 0) rfl
            have g1 := hbg.cell (i := 1) rfl
            have g2 := hbg.cell (i := 2) rfl
            have g3 := hbg.cell (i := 3) rfl
            have b0 := hq10.bb.cell (i := 0) rfl
            have b1 := hq10.bb.cell (i := 1) rfl
            have b2 := hq10.bb.cell (i := 2) rfl
            have b3 := hq10.bb.cell (i := 3) rfl
            simp only [Tr.kind, Tr.data, Tr.exec, Tr.v] at b0 b1 b2 b3
            go_wp2_with fail
            refine HSM.out.mono ?_
            rintro e w11 ⟨rfl, hb11⟩
            have hq11 := hq10.later hb11
            have hby11 := hby10.below hb11 hby10.lt
            have hyo11 := hyo10.ob hb11
            clear g0 g1 g2 g3 b0 b1 b2 b3 hbg hq10 hby10 hyo10 hb11 HSM hBa
            go_wp2_with fail
            refine (apart_any s t _ (by omega) (by omega)).mono ?_
            rintro e w12 ⟨rfl, hb12⟩
            have hq12 := hq11.later hb12
            have hby12 := hby11.below hb12 hby11.lt
            have hyo12 := hyo11.ob hb12
            clear hq11 hby11 hyo11 hb12
            cases hap : apartB s t
            · have hB12 := hq12.below
              clear hq12 hby12 hyo12
              go_wp2_with fail
              go_ret
              exact ⟨rfl, hB12⟩
            · have HPO := hidd (puts_other HR.out hap)
              have HG1 := hidd (get_any E B (.mk ka da ea (.slice oa kso.length oc) kso) t _ hq12.ox hq12.env.tr hq12.ml (by omega))
              simp only [nval, Tr.kind, Tr.data, Tr.exec, Tr.v] at HG1
              have o0 := hq12.bx.cell (i := 0) rfl
              have o1 := hq12.bx.cell (i := 1) rfl
              have o2 := hq12.bx.cell (i := 2) rfl
              have o3 := hq12.bx.cell (i := 3) rfl
              simp only [Tr.kind, Tr.data, Tr.exec, Tr.v] at o0 o1 o2 o3
              clear hap
              go_wp2_with fail
              refine HG1.out.mono ?_
              intro e w13 hgg
              obtain ⟨k1, d1, e1', v1, n1, ks1, er1, he13, hb13, hm1⟩ := hgg.parts
              subst he13
              rw [HTB.out] at hm1
              have hq13 := hq12.later hb13
              have hby13 := hby12.below hb13 hby12.lt
              have hyo13 := hyo12.ob hb13
              have hBa : Below w13.heap.size w13 (w13.alloc (.cells #[.string k1, .string d1, .bool e1', .slice v1 ks1.length n1] 24)) := (Below.refl _ _).alloc (Nat.le_refl _) _
              have hq14 := hq13.later hBa
              have hby14 := hby13.below hBa hby13.lt
              have hyo14 := hyo13.ob hBa
              have hb1 := Blk.new w13 [.string k1, .string d1, .bool e1', .slice v1 ks1.length n1] 24
              clear o0 o1 o2 o3 hq12 hby12 hyo12 hq13 hby13 hyo13 hgg hb13 HG1
              go_upto_region 14 with fail
              generalize hwB : w13.alloc (.cells #[.string k1, .string d1, .bool e1', .slice v1 ks1.length n1] 24) = wB at *
              generalize hN3 : w13.heap.size = N3 at *
              have HG2 := hidd (get_any E B (.mk ky dy ey (.slice ya ksy.length yc) ksy) t _ hyo14 hq14.env.tr hq14.ml (by omega))
              simp only [nval, Tr.kind, Tr.data, Tr.exec, Tr.v] at HG2
              have y0 := hby14.cell (i := 0) rfl
              have y1 := hby14.cell (i := 1) rfl
              have y2 := hby14.cell (i := 2) rfl
              have y3 := hby14.cell (i := 3) rfl
              go_wp2_with fail
              refine HG2.out.mono ?_
              intro e w15 hgg
              obtain ⟨k2, d2, e2', v2, n2, ks2, er2, he15, hb15, hm2⟩ := hgg.parts
              subst he15
              have hq15 := hq14.later hb15
              have hby15 := hby14.below hb15 hby14.lt
              have hyo15 := hyo14.ob hb15
              have hb1a := hb1.below hb15 hb1.lt
              have hBc : Below w15.heap.size w15 (w15.alloc (.cells #[.string k2, .string d2, .bool e2', .slice v2 ks2.length n2] 24)) := (Below.refl _ _).alloc (Nat.le_refl _) _
              have hq16 := hq15.later hBc
              have hby16 := hby15.below hBc hby15.lt
              have hyo16 := hyo15.ob hBc
              have hb1b := hb1a.below hBc hb1a.lt
              have hb2 := Blk.new w15 [.string k2, .string d2, .bool e2', .slice v2 ks2.length n2] 24
              have HBa := hidd (hb15.trans (hBc.mono hb15.size))
              have HBc := hidd hBc
              clear y0 y1 y2 y3 hq14 hby14 hyo14 hq15 hby15 hyo15 hgg hb15 HG2 hb1 hb1a
              go_upto_region 15 with fail
              generalize w15.alloc (.cells #[.string k2, .string d2, .bool e2', .slice v2 ks2.length n2] 24) = wC at *
              generalize hN4 : w15.heap.size = N4 at *
              rcases HPO.out with ⟨z, hz1, hz2⟩ | ⟨⟨c1, hc1⟩, c2, hc2⟩
              · obtain ⟨ha1, rfl, ha3⟩ : (Tr.mk k1 d1 e1' (.slice v1 ks1.length n1) ks1 : Lt).bare = z ∧ er1 = .nilIface ∧ (Tr.mk k1 d1 e1' (.slice v1 ks1.length n1) ks1 : Lt).Ok w13 := by
                  rcases hm1.out with ⟨c, hc, -⟩ | ⟨h1, h2, h3⟩
                  · rw [hz1] at hc; cases hc
                  · rw [hz1] at h1; exact ⟨(Except.ok.inj h1).symm, h2, h3⟩
                obtain ⟨hd1, rfl, hd3⟩ : (Tr.mk k2 d2 e2' (.slice v2 ks2.length n2) ks2 : Lt).bare = z ∧ er2 = .nilIface ∧ (Tr.mk k2 d2 e2' (.slice v2 ks2.length n2) ks2 : Lt).Ok w15 := by
                  rcases hm2.out with ⟨c, hc, -⟩ | ⟨h1, h2, h3⟩
                  · rw [hz2] at hc; cases hc
                  · rw [hz2] at h1; exact ⟨(Except.ok.inj h1).symm, h2, h3⟩
                rw [← hN3] at hBa
                have ho1 := (ha3.ob hBa).ob HBa.out
                have hbc := HBc.out
                rw [← hN4] at hbc
                have ho2 := hd3.ob hbc
                have HSM := hidd (fun W (h : Below wC.heap.size wC W) => same_any (.mk k1 d1 e1' (.slice v1 ks1.length n1) ks1) (.mk k2 d2 e2' (.slice v2 ks2.length n2) ks2) W true (ho1.ob h) (ho2.ob h) ⟨fun _ => ha1.trans hd1.symm, fun _ => rfl⟩)
                simp only [nval, Tr.kind, Tr.data, Tr.exec, Tr.v] at HSM
                have hbC : Below wC.heap.size wC wC.drew := (Below.refl _ _).drew
                have HS2 : Hid (∀ W, Below wC.heap.size wC W → W.cell? ⟨N3, 0, none⟩ = some (.string k1) ∧ W.cell? ⟨N3, 1, none⟩ = some (.string d1) ∧ W.cell? ⟨N3, 2, none⟩ = some (.bool e1') ∧ W.cell? ⟨N3, 3, none⟩ = some (.slice v1 ks1.length n1) ∧ W.cell? ⟨N4, 0, none⟩ = some (.string k2) ∧ W.cell? ⟨N4, 1, none⟩ = some (.string d2) ∧ W.cell? ⟨N4, 2, none⟩ = some (.bool e2') ∧ W.cell? ⟨N4, 3, none⟩ = some (.slice v2 ks2.length n2)) := hidd (fun W h =>
                  ⟨(hb1b.below h hb1b.lt).cell (i := 0) rfl, (hb1b.below h hb1b.lt).cell (i := 1) rfl, (hb1b.below h hb1b.lt).cell (i := 2) rfl, (hb1b.below h hb1b.lt).cell (i := 3) rfl, (hb2.below h hb2.lt).cell (i := 0) rfl, (hb2.below h hb2.lt).cell (i := 1) rfl, (hb2.below h hb2.lt).cell (i := 2) rfl, (hb2.below h hb2.lt).cell (i := 3) rfl⟩)
                have HQ := hidd hq16
                have HBY := hidd hby16
                have HYO := hidd hyo16
                clear hm1 hm2 ha1 ha3 hd1 hd3 hz1 hz2 ho1 ho2 hb1b hb2 hBa HBa HBc hBc hbc hq16 hby16 hyo16 hwB hN3 hN4 HPO
                first
                  | (go_region_held3 (fun W => W.cell? ⟨N3, 0, none⟩ = some (.string k1) ∧ W.cell? ⟨N3, 1, none⟩ = some (.string d1) ∧ W.cell? ⟨N3, 2, none⟩ = some (.bool e1') ∧ W.cell? ⟨N3, 3, none⟩ = some (.slice v1 ks1.length n1) ∧ W.cell? ⟨N4, 0, none⟩ = some (.string k2) ∧ W.cell? ⟨N4, 1, none⟩ = some (.string d2) ∧ W.cell? ⟨N4, 2, none⟩ = some (.bool e2') ∧ W.cell? ⟨N4, 3, none⟩ = some (.slice v2 ks2.length n2))
                      (first | exact HS2.out _ hbC | exact HS2.out _ hbD)
                      (first
                        | (go_at_call 11; (with_reducible refine (HSM.out _ hbC).mono ?_); rintro e w17 ⟨rfl, hbE⟩; have hbD := hbC.trans (hbE.mono (Nat.le_refl _)))))
                  | fail
                have hq17 := HQ.out.later hbD
                have hby17 := HBY.out.below hbD HBY.out.lt
                have hyo17 := HYO.out.ob hbD
                clear HSM HS2 hbC hbE hbD HQ HBY HYO
                have HDP := hidd (drop_any E B (.mk ky dy ey (.slice ya ksy.length yc) ksy) s _ hyo17 hq17.env.tr hq17.ml (by omega))
                simp only [nval, Tr.kind, Tr.data, Tr.exec, Tr.v] at HDP
                have y0 := hby17.cell (i := 0) rfl
                have y1 := hby17.cell (i := 1) rfl
                have y2 := hby17.cell (i := 2) rfl
                have y3 := hby17.cell (i := 3) rfl
                go_wp2_with fail
                refine HDP.out.mono ?_
                intro e w18 hyy
                obtain ⟨kz, dz, ez, za, zc, ksz, erz, he18, hb18, hmz⟩ := hyy.parts
                subst he18
                have hq18 := hq17.later hb18
                have hBd : Below w18.heap.size w18 (w18.alloc (.cells #[.string kz, .string dz, .bool ez, .slice za ksz.length zc] 24)) := (Below.refl _ _).alloc (Nat.le_refl _) _
                have hq19 := hq18.later hBd
                have hbz := Blk.new w18 [.string kz, .string dz, .bool ez, .slice za ksz.length zc] 24
                have hB19 := hq19.below
                clear y0 y1 y2 y3 hq17 hby17 hyo17 hq18 hyy hb18 HDP
                rcases HDR.out with ⟨hd3, hs47⟩ | ⟨Z, hdz, hgz⟩
                · obtain ⟨c, hc0, rfl⟩ : ∃ c, c ≠ 0 ∧ erz = evc E c := by
                    rcases hmz.out with ⟨c, -, h0, h1, -⟩ | ⟨h1, -⟩
                    · exact ⟨c, h0, h1⟩
                    · rw [hd3] at h1; cases h1
                  have e47 : (s.toList == [47]) = true := by rw [hs47]; rfl
                  rw [evc_ne hc0]
                  clear hq19 hbz hmz hd3 hs47 HGT
                  go_wp2_with fail
                  go_ret
                  exact ⟨rfl, hB19⟩
                · obtain ⟨hzb, rfl, hzo⟩ : (Tr.mk kz dz ez (.slice za ksz.length zc) ksz : Lt).bare = Z ∧ erz = .nilIface ∧ (Tr.mk kz dz ez (.slice za ksz.length zc) ksz : Lt).Ok w18 := by
                    rcases hmz.out with ⟨c, hc, -⟩ | ⟨h1, h2, h3, -⟩
                    · rw [hdz] at hc; cases hc
                    · rw [hdz] at h1; exact ⟨(Except.ok.inj h1).symm, h2, h3⟩
                  have HG6 : Hid (getOf (Tr.mk kz dz ez (.slice za ksz.length zc) ksz : Lt).bare s = .error 6) := hidd (by rw [hzb]; exact hgz)
                  have HGZ := hidd (get_any E B (.mk kz dz ez (.slice za ksz.length zc) ksz) s _ (hzo.ob hBd) hq19.env.tr hq19.ml (by omega))
                  simp only [nval, Tr.kind, Tr.data, Tr.exec, Tr.v] at HGZ
                  clear hmz hzb hzo hdz hgz
                  go_upto_region 20 with fail
                  generalize w18.alloc (.cells #[.string kz, .string dz, .bool ez, .slice za ksz.length zc] 24) = wZ at *
                  generalize w18.heap.size = N5 at *
                  have z0 := hbz.cell (i := 0) rfl
                  have z1 := hbz.cell (i := 1) rfl
                  have z2 := hbz.cell (i := 2) rfl
                  have z3 := hbz.cell (i := 3) rfl
                  go_wp2_with fail
                  refine HGZ.out.mono ?_
                  intro e w20 hgg
                  obtain ⟨k6, d6, e6, v6, n6, ks6, er6, he20, hb20, hm6⟩ := hgg.parts
                  subst he20
                  have hq20 := hq19.later hb20
                  obtain rfl : er6 = evc E 6 := by
                    rcases hm6.out with ⟨c, hc, -, -, h⟩ | ⟨h1, -⟩
                    · rw [HG6.out] at hc; obtain rfl := Except.error.inj hc; exact h
                    · rw [HG6.out] at h1; cases h1
                  have HCD := hidd (fun W (h : Below w20.heap.size w20 W) => coded1 E B W (hq20.later h).env (hq20.later h).hnd (evc E 6) 6 (coded_evc2 (by omega)) 6)
                  have hB20 := hq20.below
                  clear z0 z1 z2 z3 hbz hq19 hgg hm6 hb20 HGZ hq20 hB19
                  go_wp2_with fail
                  refine (HCD.out _ (Below.refl _ _)).mono ?_
                  rintro e w21 ⟨rfl, hb21⟩
                  go_wp2_with fail
                  go_ret
                  exact ⟨rfl, hB20.trans (hb21.mono hB20.size)⟩
              · obtain ⟨c1, hc10, rfl⟩ : ∃ c, c ≠ 0 ∧ er1 = evc E c := by
                  rcases hm1.out with ⟨c, -, h0, -, h1⟩ | ⟨h1, -⟩
                  · exact ⟨c, h0, h1⟩
                  · rw [hc1] at h1; cases h1
                obtain ⟨c2, hc20, rfl⟩ : ∃ c, c ≠ 0 ∧ er2 = evc E c := by
                  rcases hm2.out with ⟨c, -, h0, -, h1⟩ | ⟨h1, -⟩
                  · exact ⟨c, h0, h1⟩
                  · rw [hc2] at h1; cases h1
                rw [evc_ne hc10, evc_ne hc20]
                clear hm1 hm2 hc1 hc2 hc10 hc20 hb1b hb2 hBa HBa HBc hBc hwB hN3 hN4 HPO
                go_quiet (fail)
                have hq17 := hq16.later (Below.drewN _ wC nq)
                have hby17 := hby16.drewN nq
                have hyo17 := hyo16.ob (Below.drewN _ wC nq)
                clear hq16 hby16 hyo16
                have HDP := hidd (drop_any E B (.mk ky dy ey (.slice ya ksy.length yc) ksy) s _ hyo17 hq17.env.tr hq17.ml (by omega))
                simp only [nval, Tr.kind, Tr.data, Tr.exec, Tr.v] at HDP
                have y0 := hby17.cell (i := 0) rfl
                have y1 := hby17.cell (i := 1) rfl
                have y2 := hby17.cell (i := 2) rfl
                have y3 := hby17.cell (i := 3) rfl
                go_wp2_with fail
                refine HDP.out.mono ?_
                intro e w18 hyy
                obtain ⟨kz, dz, ez, za, zc, ksz, erz, he18, hb18, hmz⟩ := hyy.parts
                subst he18
                have hq18 := hq17.later hb18
                have hBd : Below w18.heap.size w18 (w18.alloc (.cells #[.string kz, .string dz, .bool ez, .slice za ksz.length zc] 24)) := (Below.refl _ _).alloc (Nat.le_refl _) _
                have hq19 := hq18.later hBd
                have hbz := Blk.new w18 [.string kz, .string dz, .bool ez, .slice za ksz.length zc] 24
                have hB19 := hq19.below
                clear y0 y1 y2 y3 hq17 hby17 hyo17 hq18 hyy hb18 HDP
                rcases HDR.out with ⟨hd3, hs47⟩ | ⟨Z, hdz, hgz⟩
                · obtain ⟨c, hc0, rfl⟩ : ∃ c, c ≠ 0 ∧ erz = evc E c := by
                    rcases hmz.out with ⟨c, -, h0, h1, -⟩ | ⟨h1, -⟩
                    · exact ⟨c, h0, h1⟩
                    · rw [hd3] at h1; cases h1
                  have e47 : (s.toList == [47]) = true := by rw [hs47]; rfl
                  rw [evc_ne hc0]
                  clear hq19 hbz hmz hd3 hs47 HGT
                  go_wp2_with fail
                  go_ret
                  exact ⟨rfl, hB19⟩
                · obtain ⟨hzb, rfl, hzo⟩ : (Tr.mk kz dz ez (.slice za ksz.length zc) ksz : Lt).bare = Z ∧ erz = .nilIface ∧ (Tr.mk kz dz ez (.slice za ksz.length zc) ksz : Lt).Ok w18 := by
                    rcases hmz.out with ⟨c, hc, -⟩ | ⟨h1, h2, h3, -⟩
                    · rw [hdz] at hc; cases hc
                    · rw [hdz] at h1; exact ⟨(Except.ok.inj h1).symm, h2, h3⟩
                  have HG6 : Hid (getOf (Tr.mk kz dz ez (.slice za ksz.length zc) ksz : Lt).bare s = .error 6) := hidd (by rw [hzb]; exact hgz)
                  have HGZ := hidd (get_any E B (.mk kz dz ez (.slice za ksz.length zc) ksz) s _ (hzo.ob hBd) hq19.env.tr hq19.ml (by omega))
                  simp only [nval, Tr.kind, Tr.data, Tr.exec, Tr.v] at HGZ
                  clear hmz hzb hzo hdz hgz
                  go_upto_region 20 with fail
                  generalize w18.alloc (.cells #[.string kz, .string dz, .bool ez, .slice za ksz.length zc] 24) = wZ at *
                  generalize w18.heap.size = N5 at *
                  have z0 := hbz.cell (i := 0) rfl
                  have z1 := hbz.cell (i := 1) rfl
                  have z2 := hbz.cell (i := 2) rfl
                  have z3 := hbz.cell (i := 3) rfl
                  go_wp2_with fail
                  refine HGZ.out.mono ?_
                  intro e w20 hgg
                  obtain ⟨k6, d6, e6, v6, n6, ks6, er6, he20, hb20, hm6⟩ := hgg.parts
                  subst he20
                  have hq20 := hq19.later hb20
                  obtain rfl : er6 = evc E 6 := by
                    rcases hm6.out with ⟨c, hc, -, -, h⟩ | ⟨h1, -⟩
                    · rw [HG6.out] at hc; obtain rfl := Except.error.inj hc; exact h
                    · rw [HG6.out] at h1; cases h1
                  have HCD := hidd (fun W (h : Below w20.heap.size w20 W) => coded1 E B W (hq20.later h).env (hq20.later h).hnd (evc E 6) 6 (coded_evc2 (by omega)) 6)
                  have hB20 := hq20.below
                  clear z0 z1 z2 z3 hbz hq19 hgg hm6 hb20 HGZ hq20 hB19
                  go_wp2_with fail
                  refine (HCD.out _ (Below.refl _ _)).mono ?_
                  rintro e w21 ⟨rfl, hb21⟩
                  go_wp2_with fail
                  go_ret
                  exact ⟨rfl, hB20.trans (hb21.mono hB20.size)⟩
      · have e2 : decide ((150 : Int) < (t.size : Int)) = true := decide_eq_true (by omega)
        first
          | (go_region_held3 (fun W' => W'.cell? ⟨w.heap.size, 0, none⟩ = some (.string ka) ∧ W'.cell? ⟨w.heap.size, 1, none⟩ = some (.string da) ∧ W'.cell? ⟨w.heap.size, 2, none⟩ = some (.bool ea) ∧ W'.cell? ⟨w.heap.size, 3, none⟩ = some (.slice aa ksa.length ac) ∧ W'.cell? ⟨w.heap.size + 1, 0, none⟩ = some (.string kb) ∧ W'.cell? ⟨w.heap.size + 1, 1, none⟩ = some (.string db) ∧ W'.cell? ⟨w.heap.size + 1, 2, none⟩ = some (.bool eb) ∧ W'.cell? ⟨w.heap.size + 1, 3, none⟩ = some (.slice ba ksb.length bc))
              (first | exact PpK.c (by assumption))
              (first
                | (go_at_call 7; (with_reducible refine (HLA.out _ (PpK.oa (by assumption))).mono ?_); rintro e w' ⟨rfl, hbl⟩; have hq := PpK.later (by assumption) hbl)
                | (go_at_call 7; (with_reducible refine (HLB.out _ (PpK.ob (by assumption))).mono ?_); rintro e w' ⟨rfl, hbl⟩; have hq := PpK.later (by assumption) hbl)))
          | fail
        go_wp2_with fail
        go_ret
        exact ⟨rfl, PpK.below (by assumption)⟩
    · have e1 : decide ((150 : Int) < (s.size : Int)) = true := decide_eq_true (by omega)
      refine wp_region_held_drew (S := (fun W' => W'.cell? ⟨w.heap.size, 0, none⟩ = some (.string ka) ∧ W'.cell? ⟨w.heap.size, 1, none⟩ = some (.string da) ∧ W'.cell? ⟨w.heap.size, 2, none⟩ = some (.bool ea) ∧ W'.cell? ⟨w.heap.size, 3, none⟩ = some (.slice aa ksa.length ac) ∧ W'.cell? ⟨w.heap.size + 1, 0, none⟩ = some (.string kb) ∧ W'.cell? ⟨w.heap.size + 1, 1, none⟩ = some (.string db) ∧ W'.cell? ⟨w.heap.size + 1, 2, none⟩ = some (.bool eb) ∧ W'.cell? ⟨w.heap.size + 1, 3, none⟩ = some (.slice ba ksb.length bc))) (by kernel_rfl) (PpK.c hK2d) (fun hHeld => ?_)
      refine wpAnyH_take (i := 0) (oi := { dst := some 20, op := Op.move (Operand.tmp 9), type := 4, pos := "trees.go:230", after := #[], guard := none }) (v := ?_) rfl (by kernel_rfl) (by kernel_rfl) (by kernel_rfl) (fun _ _ _ h => h) (Or.inl ⟨by rfl, ?_⟩) (by assumption) ?_
      rotate_left
      · (intro w hSw; (try dsimp only at hSw); go_simp)
        all_goals with_reducible rfl
      try simp only [Act.put, List.setIfInBounds_toArray, List.set_cons_zero, List.set_cons_succ]
      refine wpAnyH_take (i := 1) (oi := { dst := some 21, op := Op.unOp UnOp.not 4 (Operand.tmp 20), type := 4, pos := "trees.go:230", after := #[{ on := 0, ground := Ground.data }], guard := none }) (v := ?_) rfl (by kernel_rfl) (by kernel_rfl) (by kernel_rfl) (fun _ _ _ h => h) (Or.inl ⟨by rfl, ?_⟩) (by assumption) ?_
      rotate_left
      · (intro w hSw; (try dsimp only at hSw); go_simp)
        all_goals with_reducible rfl
      try simp only [Act.put, List.setIfInBounds_toArray, List.set_cons_zero, List.set_cons_succ]
      refine wpAnyH_take (i := 2) (oi := { dst := some 22, op := Op.move (Operand.tmp 21), type := 4, pos := "trees.go:230", after := #[{ on := 1, ground := Ground.data }], guard := none }) (v := ?_) rfl (by kernel_rfl) (by kernel_rfl) (by kernel_rfl) (fun _ _ _ h => h) (Or.inl ⟨by rfl, ?_⟩) (by assumption) ?_
      rotate_left
      · (intro w hSw; (try dsimp only at hSw); go_simp)
        all_goals with_reducible rfl
      try simp only [Act.put, List.setIfInBounds_toArray, List.set_cons_zero, List.set_cons_succ]
      refine wpAnyH_take (i := 3) (oi := { dst := some 23, op := Op.load 24 (Operand.tmp 4), type := 24, pos := "trees.go:230", after := #[{ on := 2, ground := Ground.guard }], guard := some (2, false) }) (v := ?_) rfl (by kernel_rfl) (by kernel_rfl) (by kernel_rfl) (fun _ _ _ h => h) (Or.inl ⟨by rfl, ?_⟩) (by assumption) ?_
      rotate_left
      · (intro w hSw; (try dsimp only at hSw); go_simp)
        all_goals with_reducible rfl
      try simp only [Act.put, List.setIfInBounds_toArray, List.set_cons_zero, List.set_cons_succ]
      refine wpAnyH_take (i := 5) (oi := { dst := some 25, op := Op.load 24 (Operand.tmp 7), type := 24, pos := "trees.go:230", after := #[{ on := 2, ground := Ground.guard }], guard := some (2, false) }) (v := ?_) rfl (by kernel_rfl) (by kernel_rfl) (by kernel_rfl) (fun _ _ _ h => h) (Or.inl ⟨by rfl, ?_⟩) (by assumption) ?_
      rotate_left
      · (intro w hSw; (try dsimp only at hSw); go_simp)
        all_goals with_reducible rfl
      try simp only [Act.put, List.setIfInBounds_toArray, List.set_cons_zero, List.set_cons_succ]
      refine wpAnyH_ready (rs := [4]) (by kernel_rfl) (by simp) ?_
      refine AllReadyH.cons (o := { dst := some 24, op := Op.call { callee := Callee.value (Operand.func 7), args := #[Operand.tmp 23, Operand.const (Value.int IntKind.i64 100)], argTypes := #[24, 3] }, type := 3, pos := "trees.go:230", after := #[{ on := 3, ground := Ground.data }, { on := 2, ground := Ground.chain }, { on := 2, ground := Ground.guard }], guard := some (2, false) }) rfl (fun K hK => ?_) AllReadyH.nil
      go_simp
      (go_at_call 7; refine (HLA.out _ (PpK.oa (by assumption))).mono ?_; rintro e w' ⟨rfl, hbl⟩; have hq := PpK.later (by assumption) hbl)
      go_wp2_with fail
      refine hK.out _ _ (PpK.c hq) (fun hHeld2 => ?_)
      clear hK K
      try simp only [Act.put, List.setIfInBounds_toArray, List.set_cons_zero, List.set_cons_succ]
      refine wpAnyH_ready (rs := [6]) (by kernel_rfl) (by simp) ?_
      refine AllReadyH.cons (o := { dst := some 26, op := Op.call { callee := Callee.value (Operand.func 7), args := #[Operand.tmp 25, Operand.const (Value.int IntKind.i64 60)], argTypes := #[24, 3] }, type := 3, pos := "trees.go:230", after := #[{ on := 5, ground := Ground.data }, { on := 4, ground := Ground.chain }, { on := 2, ground := Ground.guard }], guard := some (2, false) }) rfl (fun K hK => ?_) AllReadyH.nil
      go_simp
      (go_at_call 7; refine (HLB.out _ (PpK.ob (by assumption))).mono ?_; rintro e w' ⟨rfl, hbl⟩; have hq := PpK.later (by assumption) hbl)
      go_wp2_with fail
      refine hK.out _ _ (PpK.c hq) (fun hHeld2 => ?_)
      clear hK K
      try simp only [Act.put, List.setIfInBounds_toArray, List.set_cons_zero, List.set_cons_succ]
      refine wpAnyH_take (i := 7) (oi := { dst := some 27, op := Op.binOp BinOp.add 3 (Operand.tmp 24) (Operand.tmp 26) 3, type := 3, pos := "trees.go:230", after := #[{ on := 4, ground := Ground.data }, { on := 6, ground := Ground.data }, { on := 2, ground := Ground.guard }], guard := some (2, false) }) (v := ?_) rfl (by kernel_rfl) (by kernel_rfl) (by kernel_rfl) (fun _ _ _ h => h) (Or.inl ⟨by rfl, ?_⟩) (by assumption) ?_
      rotate_left
      · (intro w hSw; (try dsimp only at hSw); go_simp)
        all_goals with_reducible rfl
      try simp only [Act.put, List.setIfInBounds_toArray, List.set_cons_zero, List.set_cons_succ]
      refine wpAnyH_take (i := 8) (oi := { dst := some 28, op := Op.binOp BinOp.gtr 3 (Operand.tmp 27) (Operand.const (Value.int IntKind.i64 0)) 3, type := 4, pos := "trees.go:230", after := #[{ on := 7, ground := Ground.data }, { on := 2, ground := Ground.guard }], guard := some (2, false) }) (v := ?_) rfl (by kernel_rfl) (by kernel_rfl) (by kernel_rfl) (fun _ _ _ h => h) (Or.inl ⟨by rfl, ?_⟩) (by assumption) ?_
      rotate_left
      · (intro w hSw; (try dsimp only at hSw); go_simp)
        all_goals with_reducible rfl
      try simp only [Act.put, List.setIfInBounds_toArray, List.set_cons_zero, List.set_cons_succ]
      refine wpAnyH_take (i := 9) (oi := { dst := some 29, op := Op.pick (Operand.tmp 22) (Operand.const (Value.bool true)) (Operand.tmp 28), type := 4, pos := "trees.go:230", after := #[{ on := 2, ground := Ground.data }, { on := 8, ground := Ground.data }], guard := none }) (v := ?_) rfl (by kernel_rfl) (by kernel_rfl) (by kernel_rfl) (fun _ _ _ h => h) (Or.inl ⟨by rfl, ?_⟩) (by assumption) ?_
      rotate_left
      · (intro w hSw; (try dsimp only at hSw); go_simp)
        all_goals with_reducible rfl
      try simp only [Act.put, List.setIfInBounds_toArray, List.set_cons_zero, List.set_cons_succ]
      refine wpAnyH_take (i := 10) (oi := { dst := some 30, op := Op.move (Operand.tmp 29), type := 4, pos := "trees.go:230", after := #[{ on := 9, ground := Ground.data }, { on := 6, ground := Ground.chain }], guard := none }) (v := ?_) rfl (by kernel_rfl) (by kernel_rfl) (by kernel_rfl) (fun _ _ _ h => h) (Or.inl ⟨by rfl, ?_⟩) (by assumption) ?_
      rotate_left
      · (intro w hSw; (try dsimp only at hSw); go_simp)
        all_goals with_reducible rfl
      try simp only [Act.put, List.setIfInBounds_toArray, List.set_cons_zero, List.set_cons_succ]
      refine wpAnyH_take (i := 11) (oi := { dst := some 31, op := Op.move (Operand.tmp 1), type := 9, pos := "trees.go:230", after := #[{ on := 10, ground := Ground.guard }], guard := some (10, false) }) (v := ?_) rfl (by kernel_rfl) (by kernel_rfl) (by kernel_rfl) (fun _ _ _ h => h) (Or.inl ⟨by rfl, ?_⟩) (by assumption) ?_
      rotate_left
      · (intro w hSw; (try dsimp only at hSw); go_simp)
        all_goals with_reducible rfl
      try simp only [Act.put, List.setIfInBounds_toArray, List.set_cons_zero, List.set_cons_succ]
      refine wpAnyH_take (i := 12) (oi := { dst := some 32, op := Op.call { callee := Callee.builtin Builtin.len, args := #[Operand.tmp 31], argTypes := #[9] }, type := 3, pos := "trees.go:230", after := #[{ on := 11, ground := Ground.data }, { on := 10, ground := Ground.guard }], guard := some (10, false) }) (v := ?_) rfl (by kernel_rfl) (by kernel_rfl) (by kernel_rfl) (fun _ _ _ h => h) (Or.inl ⟨by rfl, ?_⟩) (by assumption) ?_
      rotate_left
      · (intro w hSw; (try dsimp only at hSw); go_simp)
        all_goals with_reducible rfl
      try simp only [Act.put, List.setIfInBounds_toArray, List.set_cons_zero, List.set_cons_succ]
      refine wpAnyH_take (i := 13) (oi := { dst := some 33, op := Op.binOp BinOp.gtr 3 (Operand.tmp 32) (Operand.const (Value.int IntKind.i64 150)) 3, type := 4, pos := "trees.go:230", after := #[{ on := 12, ground := Ground.data }, { on := 10, ground := Ground.guard }], guard := some (10, false) }) (v := ?_) rfl (by kernel_rfl) (by kernel_rfl) (by kernel_rfl) (fun _ _ _ h => h) (Or.inl ⟨by rfl, ?_⟩) (by assumption) ?_
      rotate_left
      · (intro w hSw; (try dsimp only at hSw); go_simp)
        all_goals with_reducible rfl
      try simp only [Act.put, List.setIfInBounds_toArray, List.set_cons_zero, List.set_cons_succ]
      refine wpAnyH_take (i := 14) (oi := { dst := some 34, op := Op.pick (Operand.tmp 30) (Operand.const (Value.bool true)) (Operand.tmp 33), type := 4, pos := "trees.go:230", after := #[{ on := 10, ground := Ground.data }, { on := 13, ground := Ground.data }], guard := none }) (v := ?_) rfl (by kernel_rfl) (by kernel_rfl) (by kernel_rfl) (fun _ _ _ h => h) (Or.inl ⟨by rfl, ?_⟩) (by assumption) ?_
      rotate_left
      · (intro w hSw; (try dsimp only at hSw); go_simp)
        all_goals with_reducible rfl
      try simp only [Act.put, List.setIfInBounds_toArray, List.set_cons_zero, List.set_cons_succ]
      refine wpAnyH_take (i := 15) (oi := { dst := some 35, op := Op.move (Operand.tmp 34), type := 4, pos := "trees.go:230", after := #[{ on := 14, ground := Ground.data }, { on := 10, ground := Ground.chain }], guard := none }) (v := ?_) rfl (by kernel_rfl) (by kernel_rfl) (by kernel_rfl) (fun _ _ _ h => h) (Or.inl ⟨by rfl, ?_⟩) (by assumption) ?_
      rotate_left
      · (intro w hSw; (try dsimp only at hSw); go_simp)
        all_goals with_reducible rfl
      try simp only [Act.put, List.setIfInBounds_toArray, List.set_cons_zero, List.set_cons_succ]
      refine wpAnyH_take (i := 16) (oi := { dst := some 36, op := Op.move (Operand.tmp 2), type := 9, pos := "trees.go:230", after := #[{ on := 15, ground := Ground.guard }], guard := some (15, false) }) (v := undef) rfl (by kernel_rfl) (by kernel_rfl) (by kernel_rfl) (fun _ _ _ h => h) (Or.inr ⟨by rfl, rfl⟩) (by assumption) ?_
      try simp only [Act.put, List.setIfInBounds_toArray, List.set_cons_zero, List.set_cons_succ]
      refine wpAnyH_take (i := 17) (oi := { dst := some 37, op := Op.call { callee := Callee.builtin Builtin.len, args := #[Operand.tmp 36], argTypes := #[9] }, type := 3, pos := "trees.go:230", after := #[{ on := 16, ground := Ground.data }, { on := 15, ground := Ground.guard }], guard := some (15, false) }) (v := undef) rfl (by kernel_rfl) (by kernel_rfl) (by kernel_rfl) (fun _ _ _ h => h) (Or.inr ⟨by rfl, rfl⟩) (by assumption) ?_
      try simp only [Act.put, List.setIfInBounds_toArray, List.set_cons_zero, List.set_cons_succ]
      refine wpAnyH_take (i := 18) (oi := { dst := some 38, op := Op.binOp BinOp.gtr 3 (Operand.tmp 37) (Operand.const (Value.int IntKind.i64 150)) 3, type := 4, pos := "trees.go:230", after := #[{ on := 17, ground := Ground.data }, { on := 15, ground := Ground.guard }], guard := some (15, false) }) (v := undef) rfl (by kernel_rfl) (by kernel_rfl) (by kernel_rfl) (fun _ _ _ h => h) (Or.inr ⟨by rfl, rfl⟩) (by assumption) ?_
      try simp only [Act.put, List.setIfInBounds_toArray, List.set_cons_zero, List.set_cons_succ]
      refine wpAnyH_take (i := 19) (oi := { dst := some 39, op := Op.pick (Operand.tmp 35) (Operand.const (Value.bool true)) (Operand.tmp 38), type := 4, pos := "trees.go:230", after := #[{ on := 15, ground := Ground.data }, { on := 18, ground := Ground.data }], guard := none }) (v := ?_) rfl (by kernel_rfl) (by kernel_rfl) (by kernel_rfl) (fun _ _ _ h => h) (Or.inl ⟨by rfl, ?_⟩) (by assumption) ?_
      rotate_left
      · (intro w hSw; (try dsimp only at hSw); go_simp)
        all_goals with_reducible rfl
      try simp only [Act.put, List.setIfInBounds_toArray, List.set_cons_zero, List.set_cons_succ]
      refine wpAnyH_done (by kernel_rfl) ?_ _
      go_wp2_with fail
      go_ret
      exact ⟨rfl, PpK.below (by assumption)⟩
end Go.Proofs.YtbadnmfmncjdjaaGreatDoor
