/- slices.Clone of ints: the contract for a slice that is not empty. -/
import Derived.Test.YtcpilhembdphoaaGreatDoorSpC
namespace Go.Proofs.YtcpilhembdphoaaGreatDoor
open Go.RowKit

set_option maxRecDepth 100000 in
theorem clone_ints (v : Value) (us : List Int) (w : World) (h : Sl w v (icells us) us.length 1) (h0 : 0 < us.length) (h5 : us.length ≤ 512) :
    Calls Tryz.prog 28 #[v] w fun e w' => ∃ a cap, e = .returned (.slice a us.length cap) ∧ Ow (fun g => w.heap.size ≤ g) w' 3 1 (.slice a us.length cap) us.length (icells us) ∧ Below w.heap.size w w' := by
  obtain ⟨i0, hi, hz0, hz1, hz2⟩ := info_parts infoI
  have h1 : ∀ u ∈ icells us, u.oneCell' = true := by
    intro u hu; obtain ⟨x, _, rfl⟩ := List.mem_map.1 hu; rfl
  obtain ⟨a, cap, rfl, hl, hn, hm, h3⟩ := id h
  obtain ⟨b, off, rfl, hbl, hcells⟩ := h3.resolve_left (by omega)
  have hs := Src.sl (P := Tryz.prog) (tx := 31) Tryz.underlying31 (h.ob ((Below.refl w.heap.size w).alloc (Nat.le_refl _) (.cells #[] 3)) (Nat.le_refl _)) h1
  have hown : Ow (fun g => w.heap.size ≤ g) (w.alloc (.cells #[] 3)) 3 1 (.slice (some ⟨w.heap.size, 0, none⟩) 0 0) 0 [] :=
    ⟨by simp, .inr ⟨w.heap.size, 0, 0, #[], rfl, Nat.le_refl _, heap_alloc_new w _, Nat.le_refl _, by unfold maxLen; omega, by simp, by simp⟩⟩
  go_enter Tryz.func28, Tryz.ntmps28
  go_wp2_with (at_builtin; refine wpList_append_ow _ rfl _ _ 31 31 rfl (fun g => w.heap.size ≤ g) ?cF 3 i0 (.int .i64 0) 1 8 Tryz.underlying31 hi hz0 hz1 hz2 rfl (by decide) _ _ _ rfl hown _ _ _ rfl hs ?c3 ?c4 ?_)
  case cF => intro g hg; simp at hg; omega
  case c3 => unfold maxLen; omega
  case c4 => omega
  intro v' w1 hown' hgrow
  obtain ⟨a', cap', rfl⟩ := hown'.shape
  go_wp2
  go_ret
  refine ⟨a', cap', by simp, by simpa using hown', ((Below.refl _ _).alloc (Nat.le_refl _) _).grown hgrow (by simp) (fun k hk => ?_)⟩
  simp [Value.ownBlock] at hk; omega

end Go.Proofs.YtcpilhembdphoaaGreatDoor
