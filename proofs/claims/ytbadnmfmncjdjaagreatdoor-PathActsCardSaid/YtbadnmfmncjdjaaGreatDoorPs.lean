/- The closed fact of the paths' statements; stillroomlaw1.PathSplits, walked. Condition: the texts are there, the variables read as listed. -/
import Derived.Test.YtbadnmfmncjdjaaGreatDoorPaG
import Derived.Test.YtbadnmfmncjdjaaGreatDoorPaJ
import Derived.Test.YtbadnmfmncjdjaaGreatDoorTrI
namespace Go.Proofs.YtbadnmfmncjdjaaGreatDoor
open Go.RowKit Go.Shelf

/-- A dir of a file, for paths. -/
def P0 (v : Value) : Lt := .mk ⟨#[100, 105, 114]⟩ ⟨#[]⟩ false v [(⟨#[97]⟩, .mk ⟨#[102, 105, 108, 101]⟩ ⟨#[120, 121]⟩ false (.slice none 0 0) [])]
theorem p0g (v : Value) : getOf (P0 v) ⟨#[47, 97]⟩ = .ok (.mk ⟨#[102, 105, 108, 101]⟩ ⟨#[120, 121]⟩ false (.slice none 0 0) []) := rfl
theorem p0ok (w : World) : (P0 (.slice (some ⟨w.heap.size, 0, none⟩) 1 1)).Ok (w.alloc (.cells #[.string ⟨#[97]⟩, .string ⟨#[102, 105, 108, 101]⟩, .string ⟨#[120, 121]⟩, .bool false, .slice none 0 0] 67)) := by
  refine Tr.Ok.mk' ?_ ?_ ?_
  · exact Sl.new w [.string ⟨#[97]⟩, .string ⟨#[102, 105, 108, 101]⟩, .string ⟨#[120, 121]⟩, .bool false, .slice none 0 0] 67 5 rfl
  · intro x hx
    simp only [P0, Tr.kids, List.mem_cons, List.not_mem_nil, or_false] at hx
    subst hx; decide
  · intro x hx
    simp only [P0, Tr.kids, List.mem_cons, List.not_mem_nil, or_false] at hx
    subst hx
    exact Tr.Ok.mk' (Sl.nil _ 5) (by intro y hy; cases hy) (by intro y hy; cases hy)

set_option maxRecDepth 100000 in
set_option maxHeartbeats 4000000 in
theorem pathed_true (E : Nat → Addr) (B : Nat) (w : World) (hE : Env trGs B w E) (hM : Ml w) :
    Calls Tryz.prog 6 #[] w fun e w' => e = .returned (.bool true) ∧ Below w.heap.size w w' := by
  have hB2 : Below w.heap.size w ((w.alloc (.cells #[.string ⟨#[97]⟩, .string ⟨#[102, 105, 108, 101]⟩, .string ⟨#[120, 121]⟩, .bool false, .slice none 0 0] 67)).alloc (.cells #[.string ⟨#[100, 105, 114]⟩, .string ⟨#[]⟩, .bool false, .slice (some ⟨w.heap.size, 0, none⟩) 1 1] 24)) := ((Below.refl _ _).alloc (Nat.le_refl _) _).alloc (by simp) _
  have ht2 := (p0ok w).alloc (.cells #[.string ⟨#[100, 105, 114]⟩, .string ⟨#[]⟩, .bool false, .slice (some ⟨w.heap.size, 0, none⟩) 1 1] 24)
  have HG := hidd (get_any E B (P0 (.slice (some ⟨w.heap.size, 0, none⟩) 1 1)) ⟨#[47, 97]⟩ _ ht2 (hE.ob hB2) (hM.ob hB2) (by decide))
  simp only [nval, P0, Tr.kind, Tr.data, Tr.exec, Tr.v] at HG
  clear ht2 hE hM
  go_enter Tryz.func6, Tryz.ntmps6
  go_wp2_with fail
  refine HG.out.mono ?_
  rintro e w3 ⟨hb3, hr⟩
  have hB3 := hB2.trans (hb3.mono hB2.size)
  rcases hr with ⟨c, hc, -⟩ | ⟨x, y, hx, -, rfl, hbr, hyo, -⟩
  · have := (p0g (.slice (some ⟨w.heap.size, 0, none⟩) 1 1)).symm.trans hc
    cases this
  · obtain rfl := Except.ok.inj ((p0g (.slice (some ⟨w.heap.size, 0, none⟩) 1 1)).symm.trans hx)
    obtain ⟨ya, yc, hyv⟩ := hyo.shape
    rw [Tr.bare_iff] at hbr
    obtain ⟨ky, dy, ey, vy, ksy⟩ := y
    simp only [Tr.kind, Tr.data, Tr.exec, Tr.v, Tr.kids] at hbr hyv
    obtain ⟨rfl, rfl, rfl, -, -⟩ := hbr
    subst hyv
    unfold nval
    simp only [Tr.kind, Tr.data, Tr.exec, Tr.v]
    have hBB := hB3.alloc hB3.size (.cells #[.string ⟨#[102, 105, 108, 101]⟩, .string ⟨#[120, 121]⟩, .bool false, .slice ya ksy.length yc] 24)
    clear hx hyo hb3 hB3 hB2 HG
    go_wp2_with fail
    go_ret
    exact ⟨rfl, hBB⟩

theorem one_el {L : List ByteArray} (h : L.length = 1) (h0 : 0 < L.length) (e : L[0] = ⟨#[]⟩) : L = [⟨#[]⟩] := by
  match L, h, h0, e with
  | [y], _, _, e => rw [show y = ⟨#[]⟩ from e]

end Go.Proofs.YtbadnmfmncjdjaaGreatDoor
