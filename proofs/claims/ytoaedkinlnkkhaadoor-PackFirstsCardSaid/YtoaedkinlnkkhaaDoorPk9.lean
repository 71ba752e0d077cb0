/- The contract of pack's put. Condition: the tree and the builder are there, the library's tables read as listed. -/
import Derived.Test.YtoaedkinlnkkhaaDoorPkM
import Derived.Test.YtoaedkinlnkkhaaDoorBd
namespace Go.Proofs.YtoaedkinlnkkhaaDoor
open Go.RowKit

theorem bd_ob {T e : TypeId} {B b : Nat} {p : Value} {bs : List Value} {w w' : World} (h : Lib.BuilderAt T e B b p bs w) (hf : Below w.heap.size w w') : Lib.BuilderAt T e B b p bs w' := by
  have hlt := h.lt
  obtain ⟨hB, v, hb, hown, hne⟩ := h
  exact ⟨hB, v, (hf.block b hlt).trans hb, (Fr.ob (S := fun _ => False) hf).owns hown (fun _ _ h => h), hne⟩
theorem isb_ob {T e : TypeId} {B b : Nat} {bs : List Value} {w w' : World} (h : Lib.IsBuilder T e B b bs w) (hf : Below w.heap.size w w') : Lib.IsBuilder T e B b bs w' := by
  rcases h with h | h
  · exact .inl (bd_ob h hf)
  · exact .inr (bd_ob h hf)
theorem scells (l : List UInt8) : Lib.strCells (bstr l) = l.map fun c => Value.int .u8 (c.toNat : Int) := by
  simp [Lib.strCells, bstr]
/-- Blocks that are no texts' and no builders stay. -/
def Kp (w w' : World) : Prop := ∀ (x : Nat) (cs : List Value) (T : TypeId), T ≠ 5 → T ≠ 75 → Blk w x cs T → Blk w' x cs T
theorem Kp.refl (w : World) : Kp w w := fun _ _ _ _ _ h => h
theorem Kp.trans {w1 w2 w3 : World} (h : Kp w1 w2) (k : Kp w2 w3) : Kp w1 w3 := fun x cs T a b c => k x cs T a b (h x cs T a b c)
theorem Kp.below {w w' : World} (h : Below w.heap.size w w') : Kp w w' := fun _ _ _ _ _ c => c.below h c.lt
theorem Kp.set {w : World} {b : Nat} {cs : Array Value} (hb : w.heap[b]? = some (.cells cs 75 (0, 0))) (i : Nat) (v : Value) : Kp w (w.setCell ⟨b, i, none⟩ v) := fun x _ T _ h2 h3 => h3.other (fun e => by
  simp only at e
  subst e
  unfold Blk at h3
  rw [hb] at h3
  injection h3 with h3
  injection h3 with _ h3
  exact h2 h3.symm) v
theorem Kp.grown {w w' : World} {B n : Nat} {v : Value} {xs : List Value} (hown : w.ownsRow B 5 1 v n xs) (h : w.grownBy w' v.ownBlock) : Kp w w' := fun x _ T h1 _ h3 => h3.grown h (fun e => by
  rcases hown.2 with ⟨rfl, _⟩ | ⟨g, cap, cur, rfl, _, hgb, _⟩
  · simp [Value.ownBlock] at e
  · obtain rfl : x = g := by simpa [Value.ownBlock] using e
    unfold Blk at h3
    rw [hgb] at h3
    injection h3 with h3
    injection h3 with _ h3
    exact h1 h3.symm)
/-- What put leaves. -/
def PtPost (w0 : World) (b : Nat) (bs : List UInt8) (t : Lt) (w : World) (e : Ending) (w' : World) : Prop :=
  e = .returned (.tuple #[]) ∧ Lib.BuilderAt 75 5 w0.heap.size b (.pointer (some ⟨b, 0, none⟩)) (Lib.strCells (bstr (bs ++ textL t))) w' ∧ Below w0.heap.size w w' ∧ Kp w w'

theorem ccheck_kp (B b : Nat) (bs : List Value) (w : World) (h : Lib.IsBuilder 75 5 B b bs w) :
    Calls Tryd.prog 56 #[.pointer (some ⟨b, 0, none⟩)] w fun e w' => e = .returned (.tuple #[]) ∧ Lib.BuilderAt 75 5 B b (.pointer (some ⟨b, 0, none⟩)) bs w' ∧ Below B w w' ∧ Kp w w' := by
  rcases h with h | h
  · have hB := h.1
    obtain ⟨_, v, hb, hown, hne⟩ := id h
    refine (ccheck_fresh b w h.cell0 h.shape (by simp [World.frozen?, hb])).mono ?_
    rintro e w' ⟨rfl, rfl⟩
    refine ⟨rfl, ⟨hB, v, ?_, ?_, hne⟩, (Below.refl _ _).setCell (p := ⟨b, 0, none⟩) hB _, Kp.set hb _ _⟩
    · simp [World.setCell, Array.getElem?_modify, hb]
    · refine ⟨hown.1, ?_⟩
      rcases hown.2 with hx | ⟨g, cap, cur, rfl, hg, hgg, rest⟩
      · exact .inl hx
      · refine .inr ⟨g, cap, cur, rfl, hg, ?_, rest⟩
        rw [Below.heap_setCell _ _ _ _ (fun e => hne (by simp [Value.ownBlock, e]))]
        exact hgg
  · refine (ccheck_used b w h.cell0).mono ?_
    rintro e w' ⟨rfl, rfl⟩
    exact ⟨rfl, h, Below.refl _ _, Kp.refl _⟩

set_option maxRecDepth 100000 in
set_option maxHeartbeats 4000000 in
theorem wstr_kp (B b : Nat) (bs : List Value) (s : ByteArray) (w : World) (h : Lib.IsBuilder 75 5 B b bs w) (hlen : bs.length + s.size ≤ 140737488355328) (hBw : B ≤ w.heap.size) :
    Calls Tryd.prog 38 #[.pointer (some ⟨b, 0, none⟩), .string s] w fun e w' => e = .returned (.tuple #[.int .i64 s.size, .nilIface]) ∧ Lib.BuilderAt 75 5 B b (.pointer (some ⟨b, 0, none⟩)) (bs ++ Lib.strCells s) w' ∧ Below B w w' ∧ Kp w w' := by
  obtain ⟨i0, hi, hz0, hz1, hz2⟩ := info_parts infoByte
  go_enter Tryd.func38, Tryd.ntmps38
  go_wp2_with fail
  refine (ccheck_kp B b bs _ h).mono ?_
  rintro e w1 ⟨rfl, h1, hb1, hk1⟩
  obtain ⟨hB, v, hbk, hown, hne⟩ := h1
  have c1 : w1.cell? ⟨b, 1, none⟩ = some v := by rw [Lib.cell_of_heap hbk]; rfl
  go_wp2_with (at_builtin; refine Lib.wpList_append_own_string _ rfl _ _ 73 9 rfl B 5 i0 Tryd.underlying73 Tryd.underlying9 hi hz0 hz1 hz2 _ _ _ rfl hown s rfl ?c3 ?c4 ?c5 ?_)
  case c3 => unfold maxLen; omega
  case c4 => omega
  case c5 => have := hb1.size; omega
  intro v' w2 hown' hgrow _
  have hlt : b < w1.heap.size := by
    rcases Nat.lt_or_ge b w1.heap.size with h' | h'
    · exact h'
    · simp [Array.getElem?_eq_none h'] at hbk
  have hb2 : w2.heap[b]? = some (.cells #[.pointer (some ⟨b, 0, none⟩), v] 75 (0, 0)) := by
    rw [hgrow.block b hlt (fun e => hne e.symm)]
    exact hbk
  have d1 : w2.cell? ⟨b, 1, none⟩ = some v := by rw [Lib.cell_of_heap hb2]; rfl
  have f1 : w2.frozen? ⟨b, 1, none⟩ = false := Lib.frozen_of_heap hb2 1
  obtain ⟨ao, n', cap, rfl⟩ : ∃ ao n' cap, v' = .slice ao n' cap := by
    rcases hown'.2 with ⟨hv, _⟩ | ⟨g, cap, cur, hv, _⟩
    · exact ⟨_, _, _, hv⟩
    · exact ⟨_, _, _, hv⟩
  go_wp2_with fail
  go_ret2
  refine ⟨rfl, ?_, ?_, ?_⟩
  · exact Lib.BuilderAt.put (T := 75) (e := 5) hB hb2 (bs' := bs ++ Lib.strCells s) (by simpa [Lib.strCells_length] using hown') (by decide)
  · exact (hb1.grown hgrow (by have := hb1.size; omega) (fun k hk => (hown.lt k hk).1)).setCell (p := ⟨b, 1, none⟩) hB _
  · exact (hk1.trans (Kp.grown hown hgrow)).trans (Kp.set hb2 _ _)

theorem sc_app (a c : List UInt8) : Lib.strCells (bstr a) ++ Lib.strCells (bstr c) = Lib.strCells (bstr (a ++ c)) := by rw [scells, scells, scells, List.map_append]
theorem cnt_len (s : List UInt8) (h : s.length ≤ 9999999) : (cnt s).length ≤ s.length + 8 := by
  have := dec_len s.length h
  simp [cnt]; omega

set_option maxRecDepth 100000 in
set_option maxHeartbeats 4000000 in
theorem put_link (w0 : World) (hT : TEnv w0) (b : Nat) (bs : List UInt8) (da : ByteArray) (ex : Bool) (v : Value) (w : World) (hb : Below w0.heap.size w0 w) (hI : Lib.IsBuilder 75 5 w0.heap.size b (Lib.strCells (bstr bs)) w)
    (hd : da.size ≤ 2000) (hbs : bs.length ≤ 100000000) :
    Calls Tryd.prog 27 #[.pointer (some ⟨b, 0, none⟩), .agg #[.string ⟨#[108, 105, 110, 107]⟩, .string da, .bool ex, v]] w (PtPost w0 b bs (.mk kLink da ex v []) w) := by
  have hB1 : Below w.heap.size w (w.alloc (.cells #[.string ⟨#[108, 105, 110, 107]⟩, .string da, .bool ex, v] 24)) := (Below.refl _ _).alloc (Nat.le_refl _) _
  have hC := cnt_any da (w.alloc (.cells #[.string ⟨#[108, 105, 110, 107]⟩, .string da, .bool ex, v] 24)) (by omega) ((hT.low hb).low hB1)
  obtain ⟨X, hX⟩ : ∃ X, bstr (cnt da.data.toList) = X := ⟨_, rfl⟩
  have hXs : X.size ≤ 2008 := by
    have := cnt_len da.data.toList (by rw [size_toList]; omega)
    rw [size_toList] at this
    rw [← hX, ← size_toList, bstr_list]; omega
  have HX : Hid ((⟨#[108]⟩ : ByteArray) ++ X = bstr (textL (.mk kLink da ex v [] : Lt))) := hidd (by
    rw [← hX, textL, if_neg (by decide), if_pos rfl]; exact ba_ext (by simp [bstr]))
  rw [hX] at hC
  have HC := hidd hC
  have HI := hidd (isb_ob hI hB1)
  clear hC hX hI
  go_enter Tryd.func27, Tryd.ntmps27
  go_wp2_with fail
  refine HC.out.mono ?_
  rintro e w2 ⟨rfl, hb2⟩
  have HI2 := isb_ob HI.out hb2
  have hB2 := hB1.trans (hb2.mono hB1.size)
  have hsl : Lib.strCells (bstr bs) = Lib.strCells (bstr bs) := rfl
  have hl : (Lib.strCells (bstr bs)).length = bs.length := by rw [scells, List.length_map]
  have HW := hidd (wstr_kp w0.heap.size b _ ((⟨#[108]⟩ : ByteArray) ++ X) w2 HI2 (by rw [hl, ByteArray.size_append]; have : (⟨#[108]⟩ : ByteArray).size = 1 := rfl; omega) (Nat.le_trans hb.size hB2.size))
  clear HI HI2 hl hsl HC
  go_wp2_with fail
  refine HW.out.mono ?_
  rintro e w3 ⟨rfl, h3, hb3, hk3⟩
  have H3 := hidd h3
  clear h3 HW
  go_wp2_with fail
  go_end0
  refine ⟨rfl, ?_, (hB2.mono hb.size).trans hb3, (Kp.below hB2).trans hk3⟩
  have := H3.out
  rw [HX.out, sc_app] at this
  exact this

set_option maxRecDepth 100000 in
set_option maxHeartbeats 4000000 in
theorem put_exec (w0 : World) (hT : TEnv w0) (b : Nat) (bs : List UInt8) (da : ByteArray) (v : Value) (w : World) (hb : Below w0.heap.size w0 w) (hI : Lib.IsBuilder 75 5 w0.heap.size b (Lib.strCells (bstr bs)) w)
    (hd : da.size ≤ 2000) (hbs : bs.length ≤ 100000000) :
    Calls Tryd.prog 27 #[.pointer (some ⟨b, 0, none⟩), .agg #[.string ⟨#[102, 105, 108, 101]⟩, .string da, .bool true, v]] w (PtPost w0 b bs (.mk kFile da true v []) w) := by
  have hB1 : Below w.heap.size w (w.alloc (.cells #[.string ⟨#[102, 105, 108, 101]⟩, .string da, .bool true, v] 24)) := (Below.refl _ _).alloc (Nat.le_refl _) _
  have hC := cnt_any da (w.alloc (.cells #[.string ⟨#[102, 105, 108, 101]⟩, .string da, .bool true, v] 24)) (by omega) ((hT.low hb).low hB1)
  obtain ⟨X, hX⟩ : ∃ X, bstr (cnt da.data.toList) = X := ⟨_, rfl⟩
  have hXs : X.size ≤ 2008 := by
    have := cnt_len da.data.toList (by rw [size_toList]; omega)
    rw [size_toList] at this
    rw [← hX, ← size_toList, bstr_list]; omega
  have HX : Hid ((⟨#[120]⟩ : ByteArray) ++ X = bstr (textL (.mk kFile da true v [] : Lt))) := hidd (by
    rw [← hX, textL, if_neg (by decide), if_neg (by decide), if_pos rfl]; exact ba_ext (by simp [bstr]))
  rw [hX] at hC
  have HC := hidd hC
  have HI := hidd (isb_ob hI hB1)
  clear hC hX hI
  go_enter Tryd.func27, Tryd.ntmps27
  go_wp2_with fail
  refine HC.out.mono ?_
  rintro e w2 ⟨rfl, hb2⟩
  have HI2 := isb_ob HI.out hb2
  have hB2 := hB1.trans (hb2.mono hB1.size)
  have hsl : Lib.strCells (bstr bs) = Lib.strCells (bstr bs) := rfl
  have hl : (Lib.strCells (bstr bs)).length = bs.length := by rw [scells, List.length_map]
  have HW := hidd (wstr_kp w0.heap.size b _ ((⟨#[120]⟩ : ByteArray) ++ X) w2 HI2 (by rw [hl, ByteArray.size_append]; have : (⟨#[120]⟩ : ByteArray).size = 1 := rfl; omega) (Nat.le_trans hb.size hB2.size))
  clear HI HI2 hl hsl HC
  go_wp2_with fail
  refine HW.out.mono ?_
  rintro e w3 ⟨rfl, h3, hb3, hk3⟩
  have H3 := hidd h3
  clear h3 HW
  go_wp2_with fail
  go_end0
  refine ⟨rfl, ?_, (hB2.mono hb.size).trans hb3, (Kp.below hB2).trans hk3⟩
  have := H3.out
  rw [HX.out, sc_app] at this
  exact this

set_option maxRecDepth 100000 in
set_option maxHeartbeats 4000000 in
theorem put_file (w0 : World) (hT : TEnv w0) (b : Nat) (bs : List UInt8) (da : ByteArray) (v : Value) (w : World) (hb : Below w0.heap.size w0 w) (hI : Lib.IsBuilder 75 5 w0.heap.size b (Lib.strCells (bstr bs)) w)
    (hd : da.size ≤ 2000) (hbs : bs.length ≤ 100000000) :
    Calls Tryd.prog 27 #[.pointer (some ⟨b, 0, none⟩), .agg #[.string ⟨#[102, 105, 108, 101]⟩, .string da, .bool false, v]] w (PtPost w0 b bs (.mk kFile da false v []) w) := by
  have hB1 : Below w.heap.size w (w.alloc (.cells #[.string ⟨#[102, 105, 108, 101]⟩, .string da, .bool false, v] 24)) := (Below.refl _ _).alloc (Nat.le_refl _) _
  have hC := cnt_any da (w.alloc (.cells #[.string ⟨#[102, 105, 108, 101]⟩, .string da, .bool false, v] 24)) (by omega) ((hT.low hb).low hB1)
  obtain ⟨X, hX⟩ : ∃ X, bstr (cnt da.data.toList) = X := ⟨_, rfl⟩
  have hXs : X.size ≤ 2008 := by
    have := cnt_len da.data.toList (by rw [size_toList]; omega)
    rw [size_toList] at this
    rw [← hX, ← size_toList, bstr_list]; omega
  have HX : Hid ((⟨#[102]⟩ : ByteArray) ++ X = bstr (textL (.mk kFile da false v [] : Lt))) := hidd (by
    rw [← hX, textL, if_neg (by decide), if_neg (by decide), if_neg (by decide)]; exact ba_ext (by simp [bstr]))
  rw [hX] at hC
  have HC := hidd hC
  have HI := hidd (isb_ob hI hB1)
  clear hC hX hI
  go_enter Tryd.func27, Tryd.ntmps27
  go_wp2_with fail
  refine HC.out.mono ?_
  rintro e w2 ⟨rfl, hb2⟩
  have HI2 := isb_ob HI.out hb2
  have hB2 := hB1.trans (hb2.mono hB1.size)
  have hsl : Lib.strCells (bstr bs) = Lib.strCells (bstr bs) := rfl
  have hl : (Lib.strCells (bstr bs)).length = bs.length := by rw [scells, List.length_map]
  have HW := hidd (wstr_kp w0.heap.size b _ ((⟨#[102]⟩ : ByteArray) ++ X) w2 HI2 (by rw [hl, ByteArray.size_append]; have : (⟨#[102]⟩ : ByteArray).size = 1 := rfl; omega) (Nat.le_trans hb.size hB2.size))
  clear HI HI2 hl hsl HC
  go_wp2_with fail
  refine HW.out.mono ?_
  rintro e w3 ⟨rfl, h3, hb3, hk3⟩
  have H3 := hidd h3
  clear h3 HW
  go_wp2_with fail
  go_end0
  refine ⟨rfl, ?_, (hB2.mono hb.size).trans hb3, (Kp.below hB2).trans hk3⟩
  have := H3.out
  rw [HX.out, sc_app] at this
  exact this
end Go.Proofs.YtoaedkinlnkkhaaDoor
