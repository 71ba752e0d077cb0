/- The walk of stillroomlaw2.SpaceActs: the ways out ahead of the rounds. Condition: the argument is there, the sentinel errors read as listed. -/
import Derived.Test.YtgckmlafpmnekaaDoorRoomy
import Derived.Test.YtgckmlafpmnekaaDoorSpC
import Derived.Test.YtgckmlafpmnekaaDoorCoded
namespace Go.Proofs.YtgckmlafpmnekaaDoor
open Go.RowKit

set_option maxRecDepth 100000 in
set_option maxHeartbeats 4000000 in
theorem sa_early (n by_ : Int) (a : Option Addr) (len cap : Nat) (w : World) (h : (60 < n ∧ n ≤ 512) ∨ 60 < len ∨ 100000 < by_) :
    Calls Tryd.prog 6 #[.int .i64 n, .slice a len cap, .int .i64 by_] w fun e w' => e = .returned (.bool true) ∧ Below w.heap.size w w' := by
  by_cases h1 : 60 < n <;> by_cases h2 : n ≤ 512 <;> by_cases h3 : 60 < len <;> by_cases h4 : 100000 < by_
  all_goals first
    | (exfalso; omega)
    | (have h3' : ((60 : Int) < (len : Int)) = (60 < len) := by simp; omega
       clear h
       go_enter Tryd.func6, Tryd.ntmps6
       go_wp2_with fail
       refine (roomy_true w).mono ?_
       rintro e w1 ⟨rfl, hb1⟩
       go_wp2_with fail
       go_ret
       exact ⟨rfl, hb1⟩)

set_option maxRecDepth 100000 in
set_option maxHeartbeats 4000000 in
theorem sa_bad (E : Nat → Addr) (n by_ : Int) (a : Option Addr) (len cap : Nat) (w : World) (henv : Env codeGs w.heap.size w E) (hh : Hnd w) (h : n < 1 ∨ 512 < n) (hl : ¬ 60 < len) (h1 : by_ ≤ 100000) (h2 : -9223372036854775808 ≤ by_) :
    Calls Tryd.prog 6 #[.int .i64 n, .slice a len cap, .int .i64 by_] w fun e w' => e = .returned (.bool true) ∧ Below w.heap.size w w' := by
  have hl' : ¬ (60 : Int) < (len : Int) := by omega
  have hby : ¬ 100000 < by_ := by omega
  have hnd : (if by_ < 1 then 0 else (by_ - 1) / 16 + 1) = need by_ := (need_eq by_).symm
  have hx : (60 < n ∧ ¬ n ≤ 512 ∧ ¬ n < 1 ∧ 512 < n) ∨ (¬ 60 < n ∧ n < 1) := by omega
  rcases hx with ⟨x1, x2, x3, x4⟩ | ⟨x1, x2⟩
  all_goals
    go_enter Tryd.func6, Tryd.ntmps6
    go_wp2_with fail
    refine (roomy_true w).mono ?_
    rintro e w1 ⟨rfl, hb1⟩
    go_wp2_with fail
    refine (need_any by_ w1 (by omega)).mono ?_
    rintro e w1' ⟨rfl, rfl⟩
    rw [hnd]
    go_wp2_with fail
    refine (needOf_any by_ w1 (by omega) h2).mono ?_
    rintro e w1' ⟨rfl, rfl⟩
    go_wp2_with fail
    have henv1 := henv.ob hb1
    refine (spnew_bad E n w1 h (henv1.cell _ (by decide))).mono ?_
    rintro e w2 ⟨rfl, hb2⟩
    have hB2 := hb1.trans (hb2.mono hb1.size)
    have henv2 := henv.ob hB2
    clear hb2 henv1
    unfold erv
    go_wp2_with fail
    refine (coded2 E w.heap.size w2 henv2 (hh.below hB2 (Nat.le_refl _)) (.iface 113 (.pointer (some (E 1)))) 2 (.inr ⟨1, by omega, rfl, rfl⟩) 2).mono ?_
    rintro e w3 ⟨rfl, hb3⟩
    have hB3 := hB2.trans (hb3.mono hB2.size)
    have z : decide (((2 : Nat) : Int) = 2) = true := rfl
    rw [z]
    clear z hb3
    go_wp2_with fail
    go_ret
    exact ⟨rfl, hB3⟩
end Go.Proofs.YtgckmlafpmnekaaDoor
