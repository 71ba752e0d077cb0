/- What a right tree's text is read as, in plain words; stores of a whole node. No condition. -/
import Derived.Test.YtoaedkinlnkkhaaDoorPkS
import Derived.Test.YtoaedkinlnkkhaaDoorPk7
import Derived.Test.YtoaedkinlnkkhaaDoorTrD
import Derived.Test.YtoaedkinlnkkhaaDoorTrE
namespace Go.Proofs.YtoaedkinlnkkhaaDoor
open Go.RowKit
theorem large_num6 (t : Lt) (most : Nat) (hm : most ≤ 300) : ∃ r : Int, (0 ≤ r ∧ r ≤ 1) ∧ (r = 0 ↔ SmallL most t) ∧ Hid (∀ W, t.Ok W → Calls Tryd.prog 7 #[nval t, .int .i64 (most : Int)] W fun e w' => e = .returned (.int .i64 r) ∧ Below W.heap.size W w') := by
  by_cases h : SmallL most t
  · exact ⟨0, by omega, ⟨fun _ => h, fun _ => rfl⟩, hidd (fun W ht => (large_fn t most W ht hm).mono fun _ _ ⟨k, hb⟩ => ⟨k.elim (fun k => k.1) (fun k => absurd h k.2), hb⟩)⟩
  · exact ⟨1, by omega, ⟨fun e => by omega, fun h' => absurd h' h⟩, hidd (fun W ht => (large_fn t most W ht hm).mono fun _ _ ⟨k, hb⟩ => ⟨k.elim (fun k => absurd k.2 h) (fun k => k.1), hb⟩)⟩
mutual
/-- A tree's rows lie in no block of four cells. -/
theorem ok_apart {W : World} {p : Nat} {c0 c1 c2 c3 : Value} {T : TypeId} (hb : Blk W p [c0, c1, c2, c3] T) : ∀ t : Lt, t.Ok W → t.In (fun b => ¬ b = p)
  | .mk k d e v ks, h => by
    rw [Tr.Ok] at h
    rw [Tr.In]
    refine ⟨fun hn b hv hp => ?_, oks_apart hb ks h.2.2⟩
    obtain ⟨a, cap, rfl, _, _, _, h3⟩ := h.1
    have hl := kcells_len ks
    have hk : 0 < ks.length := by cases ks with | nil => exact absurd rfl hn | cons x r => simp
    rcases h3 with h3 | ⟨b', off, rfl, _, h4⟩
    · omega
    · simp only [Value.ownBlock, Option.some.injEq] at hv
      subst hv
      subst hp
      have := h4 4 (by omega)
      unfold Blk at hb
      simp [World.cell?, hb] at this
theorem oks_apart {W : World} {p : Nat} {c0 c1 c2 c3 : Value} {T : TypeId} (hb : Blk W p [c0, c1, c2, c3] T) : ∀ ks : List (ByteArray × Lt), Oks W ks → InS (fun b => ¬ b = p) ks
  | [], _ => by rw [InS]; trivial
  | (n, t) :: r, h => by rw [Oks] at h; rw [InS]; exact ⟨ok_apart hb t h.1, oks_apart hb r h.2⟩
end
/-- A tree, behind a store of a whole node. -/
theorem ok_set4 {W : World} {p : Nat} {c0 c1 c2 c3 : Value} {T : TypeId} (hb : Blk W p [c0, c1, c2, c3] T) {t : Lt} (h : t.Ok W) (x0 x1 x2 x3 : Value) : t.Ok ((((W.setCell ⟨p, 0, none⟩ x0).setCell ⟨p, 1, none⟩ x1).setCell ⟨p, 2, none⟩ x2).setCell ⟨p, 3, none⟩ x3) :=
  ok_fr ((Fr.refl (fun b => b = p) W).set4 (.inl rfl) x0 x1 x2 x3) t h (ok_apart hb t h)
theorem below_set4 {w W : World} {p : Nat} (h : Below w.heap.size w W) (hp : w.heap.size ≤ p) (x0 x1 x2 x3 : Value) : Below w.heap.size w ((((W.setCell ⟨p, 0, none⟩ x0).setCell ⟨p, 1, none⟩ x1).setCell ⟨p, 2, none⟩ x2).setCell ⟨p, 3, none⟩ x3) :=
  (((h.setCell (p := ⟨p, 0, none⟩) hp x0).setCell (p := ⟨p, 1, none⟩) hp x1).setCell (p := ⟨p, 2, none⟩) hp x2).setCell (p := ⟨p, 3, none⟩) hp x3
/-- A right tree's text is not too long. -/
theorem right_len {t : Lt} (h : treeE t = 0) : (bstr (textL t)).size ≤ 500000 := by
  obtain ⟨h1, h2⟩ := scan_zero (show scan 0 (pre ⟨#[]⟩ 0 t) = 0 from h)
  have hs : t.sz ≤ 200 := by
    have := h2 (by rw [pre_cons]; simp)
    rw [pre_len] at this
    omega
  have hl := text_len t (putok_of t 0 _ h1 hs)
  rw [← size_toList, bstr_list]
  omega
theorem right_pos {t : Lt} : 1 ≤ (textL t).length := by
  obtain ⟨k, d, e, v, ks⟩ := t
  rw [textL]
  split
  · simp
  · simp
theorem read_right {t : Nd} (h : treeE t = 0) : readP (bstr (textL t)) = if 20000 < (bstr (textL t)).size then .error 2 else .ok t := by
  have := right_text h []
  rw [List.append_nil] at this
  unfold readP
  split
  · rfl
  · rw [bstr_list, this]
    simp only
    rw [if_neg (by simp), if_pos h]
theorem first_right {t : Nd} (h : treeE t = 0) (m : ByteArray) : firstP (bstr (textL t) ++ m) = if 20000 < (bstr (textL t) ++ m).size then .error 2 else .ok (t, m.data.toList) := by
  have := right_text h m.data.toList
  unfold firstP
  split
  · rfl
  · rw [show (bstr (textL t) ++ m).data.toList = textL t ++ m.data.toList by simp [bstr], this]
    simp only
    rw [if_pos h]
theorem begins_of {a b : Nd} (ha : treeE a = 0) (hb : treeE b = 0) : ((bstr (textL b)).extract 0 (bstr (textL a)).size).toList = (bstr (textL a)).toList ↔ a = b := by
  rw [Lib.toList_data, Lib.toList_data, Lib.extract_from_zero, bstr_list, bstr_list, ← size_toList, bstr_list]
  constructor
  · intro h
    have := List.take_append_drop (textL a).length (textL b)
    rw [h] at this
    exact text_begins ha hb this
  · rintro rfl
    rw [List.take_length]
theorem longer_no {a b : Nd} (h : (bstr (textL b)).size < (bstr (textL a)).size) : ¬ a = b := by
  rintro rfl
  omega
end Go.Proofs.YtoaedkinlnkkhaaDoor
