/- The contract of pack.Text. Condition: the tree is there, the library's tables and the errors read as listed. -/
import Derived.Test.YtoaedkinlnkkhaaDoorPkA
namespace Go.Proofs.YtoaedkinlnkkhaaDoor
open Go.RowKit

/-- A tree's text: none of a tree that is not right. -/
def textB {α : Type} (t : Tr α) : ByteArray := if treeE t = 0 then bstr (textL t) else ⟨#[]⟩
theorem bcells (l : List UInt8) : Lib.strCells (bstr l) = Lib.byteCells l := by rw [scells]; rfl
theorem bd_new {w0 w : World} (h : w0.heap.size ≤ w.heap.size) : Lib.IsBuilder 75 5 w0.heap.size w.heap.size (Lib.strCells (bstr [])) (w.alloc (.cells #[.pointer none, .slice none 0 0] 75)) :=
  .inl ⟨h, .slice none 0 0, heap_alloc_new w _, ⟨rfl, .inl ⟨rfl, rfl⟩⟩, by simp [Value.ownBlock]⟩

set_option maxRecDepth 100000 in
set_option maxHeartbeats 4000000 in
theorem text_any (E : Nat → Addr) (B : Nat) (t : Lt) (w : World) (ht : t.Ok w) (hE : Env trGs B w E) (hT : TEnv w) :
    Calls Tryd.prog 15 #[nval t] w fun e w' => e = .returned (.string (textB t)) ∧ Below w.heap.size w w' := by
  obtain ⟨a, cap, hv⟩ := ht.shape
  have hB1 : Below w.heap.size w (w.alloc (.cells #[.string t.kind, .string t.data, .bool t.exec, .slice a t.kids.length cap] 24)) := (Below.refl _ _).alloc (Nat.le_refl _) _
  have hC := check_tr E B t (w.alloc (.cells #[.string t.kind, .string t.data, .bool t.exec, .slice a t.kids.length cap] 24)) (ht.ob hB1) (hE.ob hB1)
  by_cases h0 : treeE t = 0
  · have hTB : textB t = bstr (textL t) := if_pos h0
    rw [h0, evc_zero] at hC
    rw [hTB]
    have HPT : Hid (∀ W, Below w.heap.size w W → Calls Tryd.prog 27 #[.pointer (some ⟨W.heap.size, 0, none⟩), nval t] (W.alloc (.cells #[.pointer none, .slice none 0 0] 75)) (PtPost w W.heap.size [] t (W.alloc (.cells #[.pointer none, .slice none 0 0] 75)))) :=
      hidd (fun W hW => put_any w hT W.heap.size t [] _ h0 ht (hW.alloc hW.size _) (bd_new hW.size) (by simp))
    have HST : Hid (∀ W b, Lib.BuilderAt 75 5 w.heap.size b (.pointer (some ⟨b, 0, none⟩)) (Lib.strCells (bstr (textL t))) W → w.heap.size ≤ W.heap.size → Calls Tryd.prog 28 #[.pointer (some ⟨b, 0, none⟩)] W fun e w' => e = .returned (.string (bstr (textL t))) ∧ Below w.heap.size W w') := hidd (fun W b hi hsz => by
      rw [bcells] at hi
      exact Tryd.Builder_String_any _ _ _ W (.inr hi) hsz)
    unfold nval at hC HPT ⊢
    rw [hv] at hC HPT ⊢
    have HC := hidd hC
    have hbx := Blk.new w [.string t.kind, .string t.data, .bool t.exec, .slice a t.kids.length cap] 24
    clear hC ht hE hv h0 hT hTB
    obtain ⟨X, hX⟩ : ∃ X, bstr (textL t) = X := ⟨_, rfl⟩
    have HX := hidd hX
    rw [hX]
    rw [hX] at HST
    clear hX
    go_enter Tryd.func15, Tryd.ntmps15
    go_wp2_with fail
    refine HC.out.mono ?_
    rintro e w1 ⟨rfl, hb1'⟩
    have hb1 := hB1.trans (hb1'.mono hB1.size)
    have HP2 := hidd (HPT.out w1 hb1)
    have hba := hb1.alloc hb1.size (.cells #[.pointer none, .slice none 0 0] 75)
    have hbx2 := (hbx.below hb1' hbx.lt).alloc (.cells #[.pointer none, .slice none 0 0] 75)
    have y0 := hbx2.cell (i := 0) rfl
    have y1 := hbx2.cell (i := 1) rfl
    have y2 := hbx2.cell (i := 2) rfl
    have y3 := hbx2.cell (i := 3) rfl
    clear HPT HC hbx2 hbx
    go_wp2_with fail
    refine HP2.out.mono ?_
    rintro e w2 ⟨rfl, h2, hb2, -⟩
    rw [List.nil_append, HX.out] at h2
    have hB2 := hba.trans hb2
    have H2 := hidd h2
    clear h2 hb2 hba HP2
    go_wp2_with fail
    refine (HST.out _ _ H2.out hB2.size).mono ?_
    rintro e w3 ⟨rfl, hb3⟩
    clear H2 HST
    go_wp2_with fail
    go_ret
    exact ⟨rfl, hB2.trans hb3⟩
  · have hTB : textB t = ⟨#[]⟩ := if_neg h0
    rw [evc_ne h0] at hC
    rw [hTB]
    unfold nval at hC ⊢
    rw [hv] at hC ⊢
    have HC := hidd hC
    clear hC ht hE hv h0 hT hTB
    go_enter Tryd.func15, Tryd.ntmps15
    go_wp2_with fail
    refine HC.out.mono ?_
    rintro e w1 ⟨rfl, hb1⟩
    go_wp2_with fail
    go_ret
    exact ⟨rfl, hB1.trans (hb1.mono hB1.size)⟩
end Go.Proofs.YtoaedkinlnkkhaaDoor
