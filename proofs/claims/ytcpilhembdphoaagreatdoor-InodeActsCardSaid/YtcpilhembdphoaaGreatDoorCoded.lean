/- The statements' function 'coded' answers whether an error has a number. Condition: the variables read as listed. -/
import Derived.Test.YtcpilhembdphoaaGreatDoorCode
namespace Go.Proofs.YtcpilhembdphoaaGreatDoor
open Go.RowKit

set_option maxRecDepth 100000 in
theorem coded2 (E : Nat → Addr) (B : Nat) (w : World) (henv : Env codeGs B w E) (hh : Hnd w) (v : Value) (c : Nat) (hc : Coded E v c) (k : Int) :
    Calls Tryz.prog 14 #[v, .int .i64 k] w fun e w' => e = .returned (.bool (decide ((c : Int) = k))) ∧ Below w.heap.size w w' := by
  by_cases hck : (c : Int) = k
  · have h1 : ((c : Int) == k) = true := by simp [hck]
    have HK := hidd hck
    clear hck
    go_enter Tryz.func14, Tryz.ntmps14
    go_wp2_with fail
    refine (code_any E B w henv hh v c hc).mono ?_
    rintro e w' ⟨rfl, hb⟩
    go_wp2
    go_ret
    exact ⟨by simp [HK.out], hb⟩
  · have h1 : ((c : Int) == k) = false := by simp [hck]
    have HK := hidd hck
    clear hck
    go_enter Tryz.func14, Tryz.ntmps14
    go_wp2_with fail
    refine (code_any E B w henv hh v c hc).mono ?_
    rintro e w' ⟨rfl, hb⟩
    go_wp2
    go_ret
    exact ⟨by simp [HK.out], hb⟩

end Go.Proofs.YtcpilhembdphoaaGreatDoor
