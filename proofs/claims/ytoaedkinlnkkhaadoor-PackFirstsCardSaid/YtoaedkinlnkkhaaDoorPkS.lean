/- The document's TreeText, and that a text is read and written. Condition: the tree is there, the variables read as listed. -/
import Derived.Test.YtoaedkinlnkkhaaDoorPkB
import Derived.Test.YtoaedkinlnkkhaaDoorPk6
namespace Go.Proofs.YtoaedkinlnkkhaaDoor
open Go.RowKit

mutual
theorem textL_map {α β : Type} (f : α → β) : ∀ t : Tr α, textL (t.map f) = textL t
  | .mk k d e v ks => by rw [Tr.map, textL, textL, textsL_map f ks, Tr.maps_eq, List.length_map]
theorem textsL_map {α β : Type} (f : α → β) : ∀ ks : List (ByteArray × Tr α), textsL (Tr.maps f ks) = textsL ks
  | [] => by simp [Tr.maps, textsL]
  | (n, t) :: r => by rw [Tr.maps, textsL, textsL, textL_map f t, textsL_map f r]
end
theorem textB_map {α β : Type} (f : α → β) (t : Tr α) : textB (t.map f) = textB t := by unfold textB; rw [textL_map, treeE_map]
theorem textB_bare {α : Type} {t : Tr α} {x : Nd} (h : t.bare = x) : textB t = textB x := by rw [← h]; exact (textB_map _ t).symm
/-- The tree that is packed, with values. -/
def T0L : Lt := .mk kDir ⟨#[]⟩ false .nilIface [(⟨#[97]⟩, .mk kFile ⟨#[120, 121]⟩ false .nilIface [])]
/-- The tree that is packed. -/
def T0 : Nd := .mk kDir ⟨#[]⟩ false () [(⟨#[97]⟩, .mk kFile ⟨#[120, 121]⟩ false () [])]
theorem t0_bare : T0 = T0L.bare := rfl
theorem t0_right : treeE T0 = 0 := by decide
theorem t0_text : textL T0 = [100, 49, 58, 49, 58, 97, 102, 50, 58, 120, 121] := by
  have d1 : Lib.decDigits 1 = [49] := by rw [Lib.decDigits]; rfl
  have d2 : Lib.decDigits 2 = [50] := by rw [Lib.decDigits]; rfl
  rw [T0, textL, if_pos rfl, textsL, textsL, textL, if_neg (by decide), if_neg (by decide), if_neg (by decide), cnt, cnt]
  simp [d1, d2]
theorem t0_textB : textB T0 = ⟨#[100, 49, 58, 49, 58, 97, 102, 50, 58, 120, 121]⟩ := by rw [textB, if_pos t0_right, t0_text]; rfl
theorem t0_read : readP ⟨#[100, 49, 58, 49, 58, 97, 102, 50, 58, 120, 121]⟩ = .ok T0 := by
  have h := right_text t0_right []
  rw [List.append_nil, t0_text] at h
  unfold readP
  rw [if_neg (by decide), show (⟨#[100, 49, 58, 49, 58, 97, 102, 50, 58, 120, 121]⟩ : ByteArray).data.toList = [100, 49, 58, 49, 58, 97, 102, 50, 58, 120, 121] from rfl, h]
  simp only
  rw [if_neg (by simp), if_pos t0_right]

set_option maxRecDepth 100000 in
set_option maxHeartbeats 4000000 in
theorem packed_true (E : Nat → Addr) (B : Nat) (w : World) (hT : TEnv w) (hE : Env trGs B w E) :
    Calls Tryd.prog 13 #[] w fun e w' => e = .returned (.bool true) ∧ Below w.heap.size w w' := by
  have HR := hidd (read_pk E B ⟨#[100, 49, 58, 49, 58, 97, 102, 50, 58, 120, 121]⟩ w (by decide) hT hE)
  rw [t0_read] at HR
  have HTX := hidd (fun (t : Lt) W (hW : Below w.heap.size w W) (h : t.Ok W) (hb : t.bare = T0) => (text_any E B t W h (hE.ob hW) (hT.low hW)).mono (R' := fun e w' => e = .returned (.string ⟨#[100, 49, 58, 49, 58, 97, 102, 50, 58, 120, 121]⟩) ∧ Below W.heap.size W w') fun e w' ⟨h1, h2⟩ => ⟨by rw [h1, textB_bare hb, t0_textB], h2⟩)
  clear hT hE
  go_enter Tryd.func13, Tryd.ntmps13
  go_wp2_with fail
  refine HR.out.mono ?_
  rintro e w1 ⟨⟨kd, da, ex, a, cap, ks, rfl, hbr, hok⟩, hb1⟩
  have hb0 := hbr
  rw [t0_bare, Tr.bare_iff] at hbr
  obtain ⟨e1, e2, e3, e4, e5⟩ := hbr
  simp only [Tr.kind, Tr.data, Tr.exec, Tr.kids, T0L] at e1 e2 e3 e4 e5
  have hl : ks.length = 1 := e4
  have e6 := e5 0 (by omega) (by simp)
  obtain ⟨b1, o1, rfl, hb1', a0, a1, a2, a3, a4⟩ := hok.at5 rfl (i := 0) (by simp only [Tr.kids]; omega)
  simp only [Tr.kids, Nat.zero_mul, Nat.add_zero] at a0 a1 a2 a3 a4
  have e7 : ks[0].2.data = ⟨#[120, 121]⟩ := by
    have := (Tr.bare_iff.1 (show ks[0].2.bare = Tr.bare (.mk kFile ⟨#[120, 121]⟩ false .nilIface [] : Lt) from e6.2)).2.1
    exact this
  rw [e7] at a2
  obtain ⟨n, hn⟩ : ∃ n, ks.length = n := ⟨_, rfl⟩
  have hB1 : Below w1.heap.size w1 (w1.alloc (.cells #[.string kd, .string da, .bool ex, .slice (some ⟨b1, o1, none⟩) ks.length cap] 24)) := (Below.refl _ _).alloc (Nat.le_refl _) _
  have hB2 := hb1.trans (hB1.mono hb1.size)
  have HX := hidd (HTX.out _ _ hB2 (hok.ob hB1) hb0)
  unfold nval at HX
  simp only [Tr.kind, Tr.data, Tr.exec, Tr.v] at HX
  have A2 : (w1.alloc (.cells #[.string kd, .string da, .bool ex, .slice (some ⟨b1, o1, none⟩) ks.length cap] 24)).cell? ⟨b1, o1 + 2, none⟩ = some (.string ⟨#[120, 121]⟩) := (hB1.cell (p := ⟨b1, _, none⟩) hb1').trans a2
  rw [hl] at HX A2 hB2 ⊢
  clear hn e1 e2 e3 e4 e5 e6 e7 hb0 hok a0 a1 a2 a3 a4 hl hB1 HTX HR
  go_wp2_with fail
  refine HX.out.mono ?_
  rintro e w2 ⟨rfl, hb2⟩
  go_wp2_with fail
  go_ret
  exact ⟨rfl, hB2.trans (hb2.mono hB2.size)⟩
end Go.Proofs.YtoaedkinlnkkhaaDoor
