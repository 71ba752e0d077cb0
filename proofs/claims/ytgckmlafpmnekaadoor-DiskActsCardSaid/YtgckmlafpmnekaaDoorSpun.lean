/- The closed fact 'spun' is true. No condition. -/
import Derived.Test.YtgckmlafpmnekaaDoorDkN
import Derived.Test.YtgckmlafpmnekaaDoorSum
namespace Go.Proofs.YtgckmlafpmnekaaDoor
open Go.RowKit Go.Shelf

set_option maxRecDepth 100000 in
set_option maxHeartbeats 4000000 in
theorem spun_true (w : World) : Calls Tryd.prog 15 #[] w fun e w' => e = .returned (.bool true) ∧ Below w.heap.size w w' := by
  go_enter Tryd.func15, Tryd.ntmps15
  go_wp2_with fail
  refine (dnew_ok 2 w (by omega) (by omega)).mono ?_
  rintro e w1 ⟨p, r, rfl, hdk, hp, hr, hb1⟩
  go_wp2_with fail
  refine (write_ok p r _ _ [] 1 ⟨#[97, 98, 99, 100, 101, 102, 103, 104, 105, 106, 107, 108, 109, 110, 111, 112]⟩ w1 hdk (by simp) rfl (by simp)).mono ?_
  rintro e w2 ⟨rfl, v2, hdk2, hv2, hf2⟩
  have hb2 : Below w.heap.size w w2 := hb1.trans (hf2.below hb1.size (fun i h => by rcases h with rfl | rfl | h <;> first | omega | simp [Value.ownBlock] at h))
  clear hdk hf2
  go_wp2_with fail
  refine (read_ok p r _ _ _ 1 w2 hdk2 (by simp)).mono ?_
  rintro e w3 ⟨rfl, hb3⟩
  have hdk3 := hdk2.ob hb3 (Nat.le_refl _)
  have hb3' := hb2.trans (hb3.mono hb2.size)
  clear hb3 hdk2
  have e1 : rdW ([] ++ [(1, ⟨#[97, 98, 99, 100, 101, 102, 103, 104, 105, 106, 107, 108, 109, 110, 111, 112]⟩)]) 1 ((List.replicate 2 (zb 16)).getD 1 ByteArray.empty) = ⟨#[97, 98, 99, 100, 101, 102, 103, 104, 105, 106, 107, 108, 109, 110, 111, 112]⟩ := rfl
  rw [e1]
  clear e1
  go_wp2_with fail
  refine (crash_any p r _ _ _ (.slice none 0 0) [] w3 hdk3 (Sl.nil _ _) (by intro b hb; simp [Value.ownBlock] at hb)).mono ?_
  rintro e w4 ⟨⟨u, rfl⟩, hdk4, hf4⟩
  have hb4 : Below w.heap.size w w4 := hb3'.trans (hf4.below hb3'.size (fun i h => by rcases h with rfl | rfl <;> omega))
  clear hdk3 hf4 hb3'
  go_wp2_with fail
  refine (read_ok p r _ _ _ 1 w4 hdk4 (by rw [crTo_len]; simp)).mono ?_
  rintro e w5 ⟨rfl, hb5⟩
  have hdk5 := hdk4.ob hb5 (Nat.le_refl _)
  have hb5' := hb4.trans (hb5.mono hb4.size)
  clear hb5 hdk4
  have e2 : rdW [] 1 ((crTo (keptB []) (List.replicate 2 (zb 16)) ([] ++ [(1, ⟨#[97, 98, 99, 100, 101, 102, 103, 104, 105, 106, 107, 108, 109, 110, 111, 112]⟩)]) ([] ++ [((1 : Nat), (⟨#[97, 98, 99, 100, 101, 102, 103, 104, 105, 106, 107, 108, 109, 110, 111, 112]⟩ : ByteArray))]).length).getD 1 ByteArray.empty) = zb 16 := rfl
  rw [e2]
  clear e2
  go_wp2_with fail
  refine (zeros_any 16 w5 (by omega)).mono ?_
  rintro e w5' ⟨rfl, rfl⟩
  go_wp2_with fail
  refine (waits_any p r _ _ _ w5 hdk5).mono ?_
  rintro e w5' ⟨rfl, rfl⟩
  go_wp2_with fail
  refine (sum_any ⟨#[49, 50, 51, 52, 53, 54, 55, 56, 57]⟩ w5 (by unfold maxLen; show 9 ≤ _; omega)).mono ?_
  rintro e w5' ⟨rfl, rfl⟩
  have e3 : crc (⟨#[49, 50, 51, 52, 53, 54, 55, 56, 57]⟩ : ByteArray).data.toList = 3421780262 := crc_ex
  rw [e3]
  clear e3
  go_wp2_with fail
  go_ret
  exact ⟨rfl, hb5'⟩
end Go.Proofs.YtgckmlafpmnekaaDoor
