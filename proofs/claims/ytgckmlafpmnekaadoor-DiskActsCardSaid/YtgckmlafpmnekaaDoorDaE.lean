/- The walk of stillroomlaw2.DiskActs. Condition: the arguments are there, the sentinel errors read as listed. -/
import Derived.Test.YtgckmlafpmnekaaDoorDaP
import Derived.Test.YtgckmlafpmnekaaDoorSpun
namespace Go.Proofs.YtgckmlafpmnekaaDoor
open Go.RowKit Go.Shelf

set_option maxRecDepth 100000 in
set_option maxHeartbeats 4000000 in
theorem da_early (n : Int) (a : Option Addr) (len cap : Nat) (s : ByteArray) (w : World) (h : (40 < n ∧ n ≤ 512) ∨ 50 < len ∨ 200 < s.size) :
    Calls Tryd.prog 8 #[.int .i64 n, .slice a len cap, .string s] w fun e w' => e = .returned (.bool true) ∧ Below w.heap.size w w' := by
  by_cases h1 : 40 < n <;> by_cases h2 : n ≤ 512 <;> by_cases h3 : 50 < len <;> by_cases h4 : 200 < s.size
  all_goals first
    | (exfalso; omega)
    | (have h3' : ((50 : Int) < (len : Int)) = (50 < len) := by simp; omega
       have h4' : ((200 : Int) < (s.size : Int)) = (200 < s.size) := by simp; omega
       clear h
       go_enter Tryd.func8, Tryd.ntmps8
       go_wp2_with fail
       refine (spun_true w).mono ?_
       rintro e w1 ⟨rfl, hb1⟩
       go_wp2_with fail
       go_ret
       exact ⟨rfl, hb1⟩)

set_option maxRecDepth 100000 in
set_option maxHeartbeats 4000000 in
theorem da_bad (E : Nat → Addr) (n : Int) (a : Option Addr) (len cap : Nat) (s : ByteArray) (w : World) (henv : Env codeGs w.heap.size w E) (hh : Hnd w) (h : n < 1 ∨ 512 < n) (hl : ¬ 50 < len) (hs : s.size ≤ 200) :
    Calls Tryd.prog 8 #[.int .i64 n, .slice a len cap, .string s] w fun e w' => e = .returned (.bool true) ∧ Below w.heap.size w w' := by
  have hl' : ¬ (50 : Int) < (len : Int) := by omega
  have hs' : ¬ (200 : Int) < (s.size : Int) := by omega
  have hcrc := crcTo_lt s.data.toList
  have hcl : crc s.data.toList < 4294967296 := Nat.xor_lt_two_pow (n := 32) hcrc (by omega)
  obtain ⟨c, hc⟩ : ∃ c, crc s.data.toList = c := ⟨_, rfl⟩
  rw [hc] at hcl
  have HC := hidd hc
  clear hc hcrc
  have hx : (40 < n ∧ ¬ n ≤ 512 ∧ ¬ n < 1 ∧ 512 < n) ∨ (¬ 40 < n ∧ n < 1) := by omega
  rcases hx with ⟨x1, x2, x3, x4⟩ | ⟨x1, x2⟩
  all_goals
    go_enter Tryd.func8, Tryd.ntmps8
    go_wp2_with fail
    refine (spun_true w).mono ?_
    rintro e w1 ⟨rfl, hb1⟩
    go_wp2_with fail
    refine (sum_any s w1 (by unfold maxLen; omega)).mono ?_
    rintro e w1' ⟨rfl, rfl⟩
    rw [HC.out]
    go_wp2_with fail
    refine (rcrc_any s w1 (by omega)).mono ?_
    rintro e w1' ⟨rfl, rfl⟩
    rw [HC.out]
    go_wp2_with fail
    have henv1 := henv.ob hb1
    refine (dnew_bad E n w1 h (henv1.cell _ (by decide))).mono ?_
    rintro e w2 ⟨rfl, hb2⟩
    have hB2 := hb1.trans (hb2.mono hb1.size)
    have henv2 := henv.ob hB2
    clear hb2 henv1
    unfold erv
    go_wp2_with fail
    refine (coded2 E w.heap.size w2 henv2 (hh.below hB2 (Nat.le_refl _)) (.iface 113 (.pointer (some (E 1)))) 2 (.inr ⟨1, by omega, rfl, rfl⟩) 2).mono ?_
    rintro e w3 ⟨rfl, hb3⟩
    have hB3 := hB2.trans (hb3.mono hB2.size)
    have z : decide (((2 : Nat) : Int) = 2) = true := rfl
    rw [z]
    clear z hb3
    go_wp2_with fail
    go_ret
    exact ⟨rfl, hB3⟩
end Go.Proofs.YtgckmlafpmnekaaDoor
