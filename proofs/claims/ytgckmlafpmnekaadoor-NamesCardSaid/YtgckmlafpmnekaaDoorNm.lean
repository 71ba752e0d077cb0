/- The walk of stillroomlaw1.Names. Condition: the sentinel errors read as listed. -/
import Derived.Test.YtgckmlafpmnekaaDoorCode2
import Derived.Test.YtgckmlafpmnekaaDoorRoomy
namespace Go.Proofs.YtgckmlafpmnekaaDoor
open Go.RowKit

theorem errNew_any (v : ByteArray) (w : World) : Calls Tryd.prog 14 #[.string v] w fun e w' => e = .returned (.iface 113 (.pointer (some ⟨w.heap.size, 0, none⟩))) ∧ w' = w.alloc (.cells #[.string v] 115) := by
  go_enter Tryd.func14, Tryd.ntmps14
  go_wp2
  go_ret
  exact ⟨rfl, rfl⟩

def nmL : List Int := [12, 2000, 40, 200, 8, 16, 20000, 16, 512, 40, 20, 1048576, 80, 16]

set_option maxRecDepth 100000 in
set_option maxHeartbeats 4000000 in
theorem nm_walk (E : Nat → Addr) (w : World) (henv : Env codeGs w.heap.size w E) (hh : Hnd w) :
    Calls Tryd.prog 3 #[] w fun e w' => e = .returned (.bool true) ∧ Below w.heap.size w w' := by
  go_enter Tryd.func3, Tryd.ntmps3
  go_wp2_with fail
  have hb1 := Blk.new w (icells nmL) 3
  have hb2 := Blk.new (w.alloc (.cells (icells nmL).toArray 3)) (icells nmL) 3
  have hB1 : Below w.heap.size w ((w.alloc (.cells (icells nmL).toArray 3)).alloc (.cells (icells nmL).toArray 3)) := ((Below.refl _ _).alloc (Nat.le_refl _) _).alloc (by simp) _
  have hs1 := Sl.blk (n := 14) (size := 1) (hb1.alloc (.cells (icells nmL).toArray 3)) (by rfl) (by unfold maxLen; decide)
  have hs2 := Sl.blk (n := 14) (size := 1) hb2 (by rfl) (by unfold maxLen; decide)
  have esz : (w.alloc (.cells (icells nmL).toArray 3)).heap.size = w.heap.size + 1 := by simp
  rw [esz] at hs2
  refine (sameInts_any _ _ nmL nmL _ hs1 hs2).mono ?_
  rintro e w1 ⟨rfl, hb3⟩
  have hB2 : Below w.heap.size w w1 := hB1.trans (hb3.mono (by simp; omega))
  clear hb1 hb2 hs1 hs2 hb3 hB1 esz
  have henv1 := henv.ob hB2
  have hh1 := hh.below hB2 (Nat.le_refl _)
  have hc0 : w1.cell? ⟨0, 0, none⟩ = some (.iface 113 (.pointer (some (E 0)))) := henv1.cell _ (by decide)
  have hc1 : w1.cell? ⟨1, 0, none⟩ = some (.iface 113 (.pointer (some (E 1)))) := henv1.cell _ (by decide)
  have hc2 : w1.cell? ⟨2, 0, none⟩ = some (.iface 113 (.pointer (some (E 2)))) := henv1.cell _ (by decide)
  have hc3 : w1.cell? ⟨3, 0, none⟩ = some (.iface 113 (.pointer (some (E 3)))) := henv1.cell _ (by decide)
  have hc4 : w1.cell? ⟨4, 0, none⟩ = some (.iface 113 (.pointer (some (E 4)))) := henv1.cell _ (by decide)
  have hc5 : w1.cell? ⟨5, 0, none⟩ = some (.iface 113 (.pointer (some (E 5)))) := henv1.cell _ (by decide)
  have hc6 : w1.cell? ⟨6, 0, none⟩ = some (.iface 113 (.pointer (some (E 6)))) := henv1.cell _ (by decide)
  have hc7 : w1.cell? ⟨7, 0, none⟩ = some (.iface 113 (.pointer (some (E 7)))) := henv1.cell _ (by decide)
  have hc8 : w1.cell? ⟨8, 0, none⟩ = some (.iface 113 (.pointer (some (E 8)))) := henv1.cell _ (by decide)
  have hc9 : w1.cell? ⟨9, 0, none⟩ = some (.iface 113 (.pointer (some (E 9)))) := henv1.cell _ (by decide)
  have hc10 : w1.cell? ⟨10, 0, none⟩ = some (.iface 113 (.pointer (some (E 10)))) := henv1.cell _ (by decide)
  have hc11 : w1.cell? ⟨11, 0, none⟩ = some (.iface 113 (.pointer (some (E 11)))) := henv1.cell _ (by decide)
  have hc12 : w1.cell? ⟨12, 0, none⟩ = some (.iface 113 (.pointer (some (E 12)))) := henv1.cell _ (by decide)
  go_wp2_with fail
  clear hc0 hc1 hc2 hc3 hc4 hc5 hc6 hc7 hc8 hc9 hc10 hc11 hc12
  generalize hW : w1.alloc _ = W2
  have hB3 : Below w.heap.size w W2 := by rw [← hW]; exact hB2.alloc hB2.size _
  have hcs : ∀ k, k < 13 → W2.cell? ⟨w1.heap.size, k, none⟩ = some (.iface 113 (.pointer (some (E (codeGs.getD k 0))))) := by
    intro k hk
    rw [← hW, World.cell?_alloc_at _ _ _ _ rfl]
    match k, hk with
    | 0, _ => rfl
    | 1, _ => rfl
    | 2, _ => rfl
    | 3, _ => rfl
    | 4, _ => rfl
    | 5, _ => rfl
    | 6, _ => rfl
    | 7, _ => rfl
    | 8, _ => rfl
    | 9, _ => rfl
    | 10, _ => rfl
    | 11, _ => rfl
    | 12, _ => rfl
  have hlt2 : w1.heap.size < W2.heap.size := by rw [← hW]; simp
  clear hW henv1 hh1 hB2
  generalize w1.heap.size = eb at *
  go_loopw [4] (fun i wr => ∃ k : Nat, k ≤ 13 ∧ i = .int .i64 k ∧ Below w.heap.size w wr ∧ Below W2.heap.size W2 wr) (fun i _ => 13 - (intOf i).toNat)
  case atStart => exact ⟨0, by omega, rfl, hB3, Below.refl _ _⟩
  case round =>
    obtain ⟨k, hk, rfl, hB, hB'⟩ := hrel
    have henvr := henv.ob hB
    have hhr := hh.below hB (Nat.le_refl _)
    by_cases hk13 : k < 13
    · have hc : wr.cell? ⟨eb, k, none⟩ = some (erv E (codeGs.getD k 0)) := by rw [hB'.cell (by simpa using hlt2)]; exact hcs k hk13
      have z1 : ((k : Int) + 1 == (k : Int) + 1) = true := by simp
      generalize hcd : codeGs.getD k 0 = gk at *
      have HC := hidd hcd
      clear hcs hcd
      unfold erv at hc
      go_wp2_with fail
      refine (code_fault E w.heap.size (wr.alloc (.cells #[.int .i64 7, erv E gk] 31)) (henvr.ob ((Below.refl _ _).alloc (Nat.le_refl _) _)) (hhr.below ((Below.refl _ _).alloc (Nat.le_refl _) _) (Nat.le_refl _)) k hk13 wr.heap.size 7 (by rw [World.cell?_alloc_at _ _ _ _ rfl]; rfl) (by rw [HC.out, World.cell?_alloc_at _ _ _ _ rfl]; rfl)).mono ?_
      rintro e w3 ⟨rfl, hb3⟩
      have hB3' : Below w.heap.size w w3 := (hB.alloc hB.size _).trans (hb3.mono (by have := hB.size; simp; omega))
      have hB4' : Below W2.heap.size W2 w3 := (hB'.alloc hB'.size _).trans (hb3.mono (by have := hB'.size; simp; omega))
      have hc3 : w3.cell? ⟨eb, k, none⟩ = some (.iface 113 (.pointer (some (E gk)))) := by
        rw [hb3.cell (by have := hB'.size; simp; omega), World.cell?_alloc_lt _ _ _ (by have := hB'.size; simp; omega)]; exact hc
      have henv3 := henv.ob hB3'
      have hh3 := hh.below hB3' (Nat.le_refl _)
      clear hb3 hc henvr hhr
      go_wp2_with fail
      refine (coded1 E w.heap.size w3 henv3 hh3 (.iface 113 (.pointer (some (E gk)))) (k + 1) (.inr ⟨k, hk13, rfl, by rw [HC.out]; rfl⟩) ((k : Int) + 1)).mono ?_
      rintro e w4 ⟨rfl, hb4⟩
      have hB5 := hB3'.trans (hb4.mono hB3'.size)
      have hB6 := hB4'.trans (hb4.mono hB4'.size)
      have z2 : decide (((k + 1 : Nat) : Int) = (k : Int) + 1) = true := by simp
      rw [z2]
      clear hc3 henv3 hh3 hb4 hB3' hB4' z2
      go_wp2_with fail
      go_roundw
      case rel => exact ⟨k + 1, by omega, by go_num, hB5, hB6⟩
      case measure => simp [intOf]; omega
    · clear hcs
      go_wp2_with fail
      refine (errNew_any _ wr).mono ?_
      rintro e w3 ⟨rfl, hw3⟩
      have hsz := hB.size
      have hB3' : Below w.heap.size w w3 := by rw [hw3]; exact hB.alloc hsz _
      obtain ⟨ca, hh3⟩ : ∃ ca, w3.heap[wr.heap.size]? = some (.cells ca 115 (0, 0)) := by rw [hw3]; exact ⟨_, heap_alloc_new wr _⟩
      generalize hn3 : wr.heap.size = n3 at *
      clear hw3
      go_wp2_with fail
      refine (code_other E w.heap.size w3 (henv.ob hB3') (hh.below hB3' (Nat.le_refl _)) ⟨n3, 0, none⟩ ca 115 hh3 (fun g hg e => by have h1 := henv.elt g hg; rw [← e] at h1; simp at h1; omega)).mono ?_
      rintro e w4 ⟨rfl, hb4⟩
      have hB4 := hB3'.trans (hb4.mono hB3'.size)
      clear hh3 hb4
      go_wp2_with fail
      refine (coded1 E w.heap.size w4 (henv.ob hB4) (hh.below hB4 (Nat.le_refl _)) .nilIface 0 (.inl ⟨rfl, rfl⟩) 0).mono ?_
      rintro e w5 ⟨rfl, hb5⟩
      have hB5 := hB4.trans (hb5.mono hB4.size)
      have z3 : decide (((0 : Nat) : Int) = 0) = true := rfl
      rw [z3]
      clear hb5 z3
      go_wp2_with fail
      go_ret
      exact ⟨rfl, hB5⟩
end Go.Proofs.YtgckmlafpmnekaaDoor
