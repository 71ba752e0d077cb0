/- The contracts of space.New, Give, Copy and Need. Condition: the receiver is a space that New gave. -/
import Derived.Test.YtcpilhembdphoaaGreatDoorSp2
import Derived.Test.YtcpilhembdphoaaGreatDoorSl
namespace Go.Proofs.YtcpilhembdphoaaGreatDoor
open Go.RowKit

theorem need_any (n : Int) (w : World) (h1 : n ≤ 1000000) : Calls Tryz.prog 25 #[.int .i64 n] w fun e w' => e = .returned (.int .i64 (if n < 1 then 0 else (n - 1) / 16 + 1)) ∧ w = w' := by
  by_cases h : n < 1
  · rw [if_pos h]
    go_enter Tryz.func25, Tryz.ntmps25
    go_wp2
    go_ret
    exact ⟨rfl, rfl⟩
  · rw [if_neg h]
    have h0 : 1 ≤ n := by omega
    go_enter Tryz.func25, Tryz.ntmps25
    go_wp2
    go_ret
    exact ⟨rfl, rfl⟩

set_option maxRecDepth 100000 in
theorem spnew_bad (E : Nat → Addr) (n : Int) (w : World) (hn : n < 1 ∨ 512 < n) (hE : w.cell? ⟨0, 0, none⟩ = some (erv E 0)) :
    Calls Tryz.prog 43 #[.int .i64 n] w fun e w' => e = .returned (.tuple #[.pointer none, erv E 0]) ∧ Below w.heap.size w w' := by
  unfold erv at *
  by_cases h : n < 1
  · clear hn
    go_enter Tryz.func43, Tryz.ntmps43
    go_wp2_with fail
    go_quiet (fail)
    go_wp2
    go_ret2
    exact ⟨rfl, by first | exact Below.drewN _ _ _ | (repeat (first | exact Below.refl _ _ | apply Below.drew))⟩
  · have h2 : 512 < n := by omega
    clear hn
    go_enter Tryz.func43, Tryz.ntmps43
    go_wp2_with fail
    go_quiet (fail)
    go_wp2
    go_ret2
    exact ⟨rfl, by first | exact Below.drewN _ _ _ | (repeat (first | exact Below.refl _ _ | apply Below.drew))⟩

def SpNew (n : Nat) (w : World) (e : Ending) (w' : World) : Prop := ∃ p r, e = .returned (.tuple #[.pointer (some ⟨p, 0, none⟩), .nilIface]) ∧ SpAt w' p r (List.replicate n false) ∧ w.heap.size ≤ p ∧ w.heap.size ≤ r ∧ Below w.heap.size w w'
theorem infoB : (Tryz.prog.info? 4).map (fun i => (i.zero, i.size, i.bytes)) = some (some (.bool false), 1, 1) := by kernel_rfl

set_option maxRecDepth 100000 in
theorem spnew_ok (n : Nat) (w : World) (h1 : 1 ≤ n) (h2 : n ≤ 512) :
    Calls Tryz.prog 43 #[.int .i64 (n : Int)] w (SpNew n w) := by
  have h3 : ¬ (n : Int) < 1 := by omega
  have h4 : ¬ (512 : Int) < (n : Int) := by omega
  obtain ⟨i0, hi, hz0, hz1, hz2⟩ := info_parts infoB
  have hmk := run_makeSlice (P := Tryz.prog) w 108 4 i0 (.bool false) Tryz.underlying108 hi hz0 .i64 .i64 (n : Int) (n : Int) (by omega) (Int.le_refl _) (by rw [hz1]; simp; omega) (by rw [hz2]; omega) (by omega)
  rw [Int.toNat_natCast, hz1] at hmk
  have hcs : madeCells (Value.bool false).cells (n * 1) = ((List.replicate n false).map Value.bool).toArray := by
    apply Array.toList_inj.1
    rw [Nat.mul_one, show (Value.bool false).cells = #[Value.bool false] from rfl, toList_madeCells_one]
    simp
  rw [hcs] at hmk
  generalize hL : (List.replicate n false).map Value.bool = L at hmk
  have HL := hidd hL
  clear hL hcs hi hz0 hz1 hz2
  go_enter Tryz.func43, Tryz.ntmps43
  go_wp2_with fail
  go_ret2
  refine ⟨w.heap.size + 1, w.heap.size, rfl, ⟨?_, ?_, by omega, by simp; omega, by simpa using h2⟩, by omega, Nat.le_refl _, ?_⟩
  · have := Blk.new (w.alloc (.cells L.toArray 4)) [.slice (some ⟨w.heap.size, 0, none⟩) n n] 110
    simpa using this
  · rw [HL.out]; exact (Blk.new w L 4).alloc _
  · exact ((Below.refl _ _).alloc (Nat.le_refl _) _).alloc (by simp) _
end Go.Proofs.YtcpilhembdphoaaGreatDoor
