/- The closed fact 'roomy' is true. No condition. -/
import Derived.Test.YtgckmlafpmnekaaDoorSp5
import Derived.Test.YtgckmlafpmnekaaDoorLaw
namespace Go.Proofs.YtgckmlafpmnekaaDoor
open Go.RowKit

theorem ints_eq (l : List Nat) : ints l = icells (l.map Int.ofNat) := by simp [ints, icells]
theorem Sl.blk {w : World} {b : Nat} {cs : List Value} {T : TypeId} (h : Blk w b cs T) {n size : Nat} (hl : cs.length = n * size) (hm : n ≤ maxLen) : Sl w (.slice (some ⟨b, 0, none⟩) n n) cs n size :=
  ⟨_, _, rfl, hl, Nat.le_refl _, hm, .inr ⟨b, 0, rfl, h.lt, fun j hj => by rw [Nat.zero_add]; exact h.cell (List.getElem?_eq_getElem hj)⟩⟩

set_option maxRecDepth 100000 in
set_option maxHeartbeats 2000000 in
theorem roomy_true (w : World) : Calls Tryd.prog 25 #[] w fun e w' => e = .returned (.bool true) ∧ Below w.heap.size w w' := by
  go_enter Tryd.func25, Tryd.ntmps25
  go_wp2_with fail
  refine (spnew_ok 4 w (by omega) (by omega)).mono ?_
  rintro e w1 ⟨p, r, rfl, hsp, hp, hr, hb1⟩
  go_wp2_with fail
  refine (take_ok p r _ 2 w1 hsp (by decide)).mono ?_
  rintro e w2 ⟨a2, cap2, rfl, ho2, hsp2, hf2⟩
  have e1 : (tk (List.replicate 4 false) 2 (List.replicate 4 false).length).1 = [0, 1] := by decide
  have e2 : (tk (List.replicate 4 false) 2 (List.replicate 4 false).length).2 = [true, true, false, false] := by decide
  rw [e1] at ho2
  rw [e2] at hsp2
  have hb2 : Below w.heap.size w w2 := hb1.trans (hf2.below hb1.size (fun i h => by subst h; exact hr))
  clear e1 e2 hsp
  go_wp2_with fail
  have hs2 : Sl (w2.alloc (.cells [.int .i64 0, .int .i64 1].toArray 3)) (.slice a2 2 cap2) (icells [0, 1]) 2 1 := (Sl.of_owns ho2).ob ((Below.refl _ _).alloc (Nat.le_refl _) _) (Nat.le_refl _)
  refine (sameInts_any _ _ [0, 1] [0, 1] _ hs2 (Sl.blk (Blk.new w2 (icells [0, 1]) 3) (by rfl) (by unfold maxLen; decide))).mono ?_
  rintro e w3 ⟨rfl, hb3⟩
  have hb3' : Below w.heap.size w w3 := (hb2.alloc hb2.size _).trans (hb3.mono (by have := hb2.size; simp; omega))
  have hsp3 := (hsp2.alloc (.cells [.int .i64 0, .int .i64 1].toArray 3)).ob hb3 (Nat.le_refl _)
  clear ho2 hs2 hsp2
  go_wp2_with fail
  have hsp4 := hsp3.alloc (.cells [.int .i64 0].toArray 3)
  have hb4 := hb3'.alloc hb3'.size (.cells [.int .i64 0].toArray 3)
  have hs4 := Sl.blk (n := 1) (size := 1) (Blk.new w3 (icells [0]) 3) (by rfl) (by unfold maxLen; decide)
  have hz3 := hb3'.size
  have hnr : Value.ownBlock (.slice (some ⟨w3.heap.size, 0, none⟩) 1 1) ≠ some r := by
    simp [Value.ownBlock]; have := hsp3.row.lt; omega
  refine (give_ok p r [true, true, false, false] _ [0] _ hsp4 hs4 hnr (by decide) (by intro i hi; simp at hi; subst hi; decide)).mono ?_
  rintro e w5 ⟨rfl, hsp5, hf5⟩
  have e5 : giv [true, true, false, false] ([(0 : Int)].map Int.toNat) = [false, true, false, false] := by decide
  rw [e5] at hsp5
  have hb5 : Below w.heap.size w w5 := hb4.trans (hf5.below hb4.size (fun i h => by subst h; omega))
  clear hsp4 hs4 hsp3 e5
  go_wp2_with fail
  refine (used_any p r _ w5 hsp5).mono ?_
  rintro e w6 ⟨a6, cap6, rfl, ho6, hb6⟩
  have e6 : usedTo [false, true, false, false] [false, true, false, false].length = [1] := by decide
  rw [e6] at ho6
  have hb6' := hb5.trans (hb6.mono hb5.size)
  clear hsp5 hb6 e6 hf5 hb4 hb3 hb3'
  go_wp2_with fail
  have hs6 : Sl (w6.alloc (.cells [.int .i64 1].toArray 3)) (.slice a6 1 cap6) (icells [1]) 1 1 := (Sl.of_owns ho6).ob ((Below.refl _ _).alloc (Nat.le_refl _) _) (Nat.le_refl _)
  refine (sameInts_any _ _ [1] [1] _ hs6 (Sl.blk (Blk.new w6 (icells [1]) 3) (by rfl) (by unfold maxLen; decide))).mono ?_
  rintro e w7 ⟨rfl, hb7⟩
  have hb7' : Below w.heap.size w w7 := (hb6'.alloc hb6'.size _).trans (hb7.mono (by have := hb6'.size; simp; omega))
  clear hs6 ho6 hb6' hb7
  go_wp2_with fail
  refine (need_any 17 w7 (by omega)).mono ?_
  rintro e w8 ⟨rfl, rfl⟩
  go_wp2_with fail
  go_ret
  exact ⟨by simp, hb7'⟩
end Go.Proofs.YtgckmlafpmnekaaDoor
