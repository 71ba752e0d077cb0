/- The contracts of tree.Count, Size and Files. Condition: the tree is there, the variables read as listed. -/
import Derived.Test.YthnlaigabefidaaGreatDoorTrH
import Derived.Test.YthnlaigabefidaaGreatDoorTxt
namespace Go.Proofs.YthnlaigabefidaaGreatDoor
open Go.RowKit Go.Shelf

/-- Count's variable. -/
def CntJ (c : Nat) (F : Nat → Prop) (l : List (It Value)) (W : World) : Prop := (∀ b, F b ↔ b = c) ∧ Blk W c [.int .i64 (l.length : Int)] 3
set_option maxRecDepth 100000 in
theorem walkCnt (c : Nat) : WalkCount c (CntJ c) where
  own := fun F l W h b hb => by rw [(h.1 b).1 hb]; exact h.2.lt
  later := fun F l W W' h hb => ⟨h.1, h.2.below hb h.2.lt⟩
  step := fun F l x W h hl hp hx => by
    obtain ⟨a, cap, hv⟩ := hx.shape
    have h1 := h.2.alloc (.cells #[.string x.n.kind, .string x.n.data, .bool x.n.exec, .slice a x.n.kids.length cap] 24)
    have hc := h1.cell (i := 0) rfl
    have hf := h1.frozen 0
    have hs := (h.2.set 0 (.int .i64 ((l.length : Int) + 1))).alloc (.cells #[.string x.n.kind, .string x.n.data, .bool x.n.exec, .slice a x.n.kids.length cap] 24)
    have hc0 := h.2.cell (i := 0) rfl
    have hf0 := h.2.frozen 0
    have hlt := h.2.lt
    have HP : Hid (∃ F', CntJ c F' (l ++ [x]) ((W.setCell ⟨c, 0, none⟩ (.int .i64 ((l.length : Int) + 1))).alloc (.cells #[.string x.n.kind, .string x.n.data, .bool x.n.exec, .slice a x.n.kids.length cap] 24)) ∧ Fr F W ((W.setCell ⟨c, 0, none⟩ (.int .i64 ((l.length : Int) + 1))).alloc (.cells #[.string x.n.kind, .string x.n.data, .bool x.n.exec, .slice a x.n.kids.length cap] 24)) ∧ ∀ b, F' b → F b ∨ W.heap.size ≤ b) := hidd
      ⟨F, ⟨h.1, by rw [List.length_append]; exact hs⟩, ((Fr.refl F W).setCell (p := ⟨c, 0, none⟩) (.inl ((h.1 c).2 rfl)) _).alloc _, fun b hb => .inl hb⟩
    unfold nval
    rw [hv]
    generalize l.length = n at *
    clear hs h h1 hv hp hx
    go_enter Tryz.func56, Tryz.ntmps56
    go_wp2_with fail
    go_end0
    exact ⟨rfl, HP.out⟩

set_option maxRecDepth 100000 in
theorem count_any (E : Nat → Addr) (B : Nat) (t : Lt) (w : World) (ht : t.Ok w) (hE : Env codeGs B w E) :
    Calls Tryz.prog 28 #[nval t] w fun e w' => e = .returned (.int .i64 ((listed t).length : Nat)) ∧ Below w.heap.size w w' := by
  obtain ⟨a, cap, hv⟩ := ht.shape
  have hB2 : Below w.heap.size w ((w.alloc (.cells #[.string t.kind, .string t.data, .bool t.exec, .slice a t.kids.length cap] 24)).alloc (.cells #[.int .i64 0] 3)) := ((Below.refl _ _).alloc (Nat.le_refl _) _).alloc (by simp) _
  have hb2 := Blk.new (w.alloc (.cells #[.string t.kind, .string t.data, .bool t.exec, .slice a t.kids.length cap] 24)) [.int .i64 ((0 : Nat) : Int)] 3
  rw [show (w.alloc (.cells #[.string t.kind, .string t.data, .bool t.exec, .slice a t.kids.length cap] 24)).heap.size = w.heap.size + 1 by simp] at hb2
  have hC := eachCount (w.heap.size + 1) (CntJ (w.heap.size + 1)) (walkCnt _) E B t (fun b => b = w.heap.size + 1) _ (ht.ob hB2) (in_mono (fun b hb h => by omega) t (ok_in t ht)) (hE.ob hB2) ⟨fun _ => Iff.rfl, hb2⟩
  unfold nval at hC ⊢
  rw [hv] at hC ⊢
  have HC := hidd hC
  clear hC hv ht hE hb2
  obtain ⟨L, hL⟩ : ∃ L, listed t = L := ⟨_, rfl⟩
  rw [hL] at HC ⊢
  clear hL
  go_enter Tryz.func28, Tryz.ntmps28
  go_wp2_with fail
  refine HC.out.mono ?_
  rintro e w2 ⟨rfl, F', ⟨hF1, hF2⟩, hf, hFF⟩
  have hB := hB2.trans (hf.below (B := w.heap.size) (by simp; omega) (fun b hb => by omega))
  have hc := hF2.cell (i := 0) rfl
  clear hf hFF hF1 hF2
  go_wp2_with fail
  go_ret
  exact ⟨rfl, hB⟩

def fileSz {α : Type} (l : List (It α)) : Nat := (l.map fun x => if x.n.kind = kFile then x.n.data.size else 0).sum
theorem fileSz_snoc {α : Type} (l : List (It α)) (x : It α) : fileSz (l ++ [x]) = fileSz l + if x.n.kind = kFile then x.n.data.size else 0 := by simp [fileSz]
theorem kFile_list : kFile.toList = [102, 105, 108, 101] := by rw [Lib.toList_data]; rfl
/-- Size's variable. -/
def SzJ (c : Nat) (F : Nat → Prop) (l : List (It Value)) (W : World) : Prop := (∀ b, F b ↔ b = c) ∧ Blk W c [.int .i64 ((fileSz l : Nat) : Int)] 3 ∧ fileSz l ≤ 2000 * l.length
set_option maxRecDepth 100000 in
theorem walkSz (c : Nat) : WalkSize c (SzJ c) where
  own := fun F l W h b hb => by rw [(h.1 b).1 hb]; exact h.2.1.lt
  later := fun F l W W' h hb => ⟨h.1, h.2.1.below hb h.2.1.lt, h.2.2⟩
  step := fun F l x W h hl hp hx => by
    obtain ⟨a, cap, hv⟩ := hx.shape
    obtain ⟨hF, hb, hbd⟩ := h
    have hdz := hp.2
    have h1 := hb.alloc (.cells #[.string x.n.kind, .string x.n.data, .bool x.n.exec, .slice a x.n.kids.length cap] 24)
    have hc := h1.cell (i := 0) rfl
    have hf := h1.frozen 0
    have hc0 := hb.cell (i := 0) rfl
    have hf0 := hb.frozen 0
    have hlt := hb.lt
    have hsn := fileSz_snoc l x
    unfold nval
    rw [hv]
    by_cases hk : x.n.kind = kFile
    · rw [if_pos hk] at hsn
      have q1 : (x.n.kind.toList == [102, 105, 108, 101]) = true := by rw [hk, kFile_list]; rfl
      have hs := (hb.set 0 (.int .i64 ((fileSz l : Int) + (x.n.data.size : Int)))).alloc (.cells #[.string x.n.kind, .string x.n.data, .bool x.n.exec, .slice a x.n.kids.length cap] 24)
      have HP : Hid (∃ F', SzJ c F' (l ++ [x]) ((W.setCell ⟨c, 0, none⟩ (.int .i64 ((fileSz l : Int) + (x.n.data.size : Int)))).alloc (.cells #[.string x.n.kind, .string x.n.data, .bool x.n.exec, .slice a x.n.kids.length cap] 24)) ∧ Fr F W ((W.setCell ⟨c, 0, none⟩ (.int .i64 ((fileSz l : Int) + (x.n.data.size : Int)))).alloc (.cells #[.string x.n.kind, .string x.n.data, .bool x.n.exec, .slice a x.n.kids.length cap] 24)) ∧ ∀ b, F' b → F b ∨ W.heap.size ≤ b) := hidd
        ⟨F, ⟨hF, by rw [hsn, Int.natCast_add]; exact hs, by rw [hsn]; simp only [List.length_append, List.length_cons, List.length_nil]; omega⟩, ((Fr.refl F W).setCell (p := ⟨c, 0, none⟩) (.inl ((hF c).2 rfl)) _).alloc _, fun b hb => .inl hb⟩
      have hfz : fileSz l ≤ 2000000 := by omega
      generalize fileSz l = n at *
      clear hs h1 hv hp hx hsn hk hbd
      go_enter Tryz.func36, Tryz.ntmps36
      go_wp2_with fail
      go_end0
      exact ⟨rfl, HP.out⟩
    · rw [if_neg hk] at hsn
      have q1 : (x.n.kind.toList == [102, 105, 108, 101]) = false := by rw [← kFile_list]; exact beq_str hk
      have HP : Hid (∃ F', SzJ c F' (l ++ [x]) (W.alloc (.cells #[.string x.n.kind, .string x.n.data, .bool x.n.exec, .slice a x.n.kids.length cap] 24)) ∧ Fr F W (W.alloc (.cells #[.string x.n.kind, .string x.n.data, .bool x.n.exec, .slice a x.n.kids.length cap] 24)) ∧ ∀ b, F' b → F b ∨ W.heap.size ≤ b) := hidd
        ⟨F, ⟨hF, by rw [hsn]; exact h1, by rw [hsn]; simp only [List.length_append, List.length_cons, List.length_nil]; omega⟩, (Fr.refl F W).alloc _, fun b hb => .inl hb⟩
      clear h1 hv hp hx hsn hk hbd hb
      go_enter Tryz.func36, Tryz.ntmps36
      go_wp2_with fail
      go_end0
      exact ⟨rfl, HP.out⟩

set_option maxRecDepth 100000 in
theorem size_any (E : Nat → Addr) (B : Nat) (t : Lt) (w : World) (ht : t.Ok w) (hE : Env codeGs B w E) :
    Calls Tryz.prog 12 #[nval t] w fun e w' => e = .returned (.int .i64 ((fileSz (listed t) : Nat) : Int)) ∧ Below w.heap.size w w' := by
  obtain ⟨a, cap, hv⟩ := ht.shape
  have hB2 : Below w.heap.size w ((w.alloc (.cells #[.string t.kind, .string t.data, .bool t.exec, .slice a t.kids.length cap] 24)).alloc (.cells #[.int .i64 0] 3)) := ((Below.refl _ _).alloc (Nat.le_refl _) _).alloc (by simp) _
  have hb2 := Blk.new (w.alloc (.cells #[.string t.kind, .string t.data, .bool t.exec, .slice a t.kids.length cap] 24)) [.int .i64 ((0 : Nat) : Int)] 3
  rw [show (w.alloc (.cells #[.string t.kind, .string t.data, .bool t.exec, .slice a t.kids.length cap] 24)).heap.size = w.heap.size + 1 by simp] at hb2
  have hC := eachSize (w.heap.size + 1) (SzJ (w.heap.size + 1)) (walkSz _) E B t (fun b => b = w.heap.size + 1) _ (ht.ob hB2) (in_mono (fun b hb h => by omega) t (ok_in t ht)) (hE.ob hB2) ⟨fun _ => Iff.rfl, hb2, by simp [fileSz]⟩
  unfold nval at hC ⊢
  rw [hv] at hC ⊢
  have HC := hidd hC
  clear hC hv ht hE hb2
  obtain ⟨L, hL⟩ : ∃ L, listed t = L := ⟨_, rfl⟩
  rw [hL] at HC ⊢
  clear hL
  go_enter Tryz.func12, Tryz.ntmps12
  go_wp2_with fail
  refine HC.out.mono ?_
  rintro e w2 ⟨rfl, F', ⟨hF1, hF2, hF3⟩, hf, hFF⟩
  have hB := hB2.trans (hf.below (B := w.heap.size) (by simp; omega) (fun b hb => by omega))
  have hc := hF2.cell (i := 0) rfl
  clear hf hFF hF1 hF2 hF3
  go_wp2_with fail
  go_ret
  exact ⟨rfl, hB⟩
end Go.Proofs.YthnlaigabefidaaGreatDoor
