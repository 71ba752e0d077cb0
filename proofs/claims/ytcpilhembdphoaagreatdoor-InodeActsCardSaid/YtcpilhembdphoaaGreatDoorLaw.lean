/- Small functions of the statements: own memory of numbers, the same numbers. Condition: the slices' cells are there. -/
import Derived.Test.YtcpilhembdphoaaGreatDoorApp
import Derived.Test.YtcpilhembdphoaaGreatDoorCoded
namespace Go.Proofs.YtcpilhembdphoaaGreatDoor
open Go.RowKit

theorem infoI' : (Tryz.prog.info? 3).map (fun i => (i.zero, i.size, i.bytes)) = some (some (.int .i64 0), 1, 8) := by kernel_rfl
theorem one_icells (l : List Int) : ∀ u ∈ icells l, u.oneCell' = true := by
  intro u hu
  obtain ⟨x, _, rfl⟩ := List.mem_map.1 hu
  rfl

/-- A result: a slice of the call's own. -/
def OwnSl (e1 : TypeId) (size : Nat) (n : Nat) (xs : List Value) (w : World) (e : Ending) (w' : World) : Prop :=
  ∃ a cap, e = .returned (.slice a n cap) ∧ Ow (fun g => w.heap.size ≤ g) w' e1 size (.slice a n cap) n xs ∧ Below w.heap.size w w'


theorem sameInts_any (v1 v2 : Value) (l1 l2 : List Int) (w : World) (h1 : Sl w v1 (icells l1) l1.length 1) (h2 : Sl w v2 (icells l2) l2.length 1) :
    Calls Tryz.prog 11 #[v1, v2] w fun e w' => e = .returned (.bool (decide (l1 = l2))) ∧ Below w.heap.size w w' := by
  have hm1 := h1.le
  have hm2 := h2.le
  obtain ⟨a1, cap1, rfl, -⟩ := id h1
  obtain ⟨a2, cap2, rfl, -⟩ := id h2
  by_cases hlen : l1.length = l2.length
  · have hb : ((l1.length : Int) == (l2.length : Int)) = true := by simp [hlen]
    have hb2 : ((l1.length : Int) != (l2.length : Int)) = false := by simp [hlen]
    have HL := hidd hlen
    clear hlen
    go_enter Tryz.func11, Tryz.ntmps11
    go_wp2_with fail
    go_loopw [5] (fun i wr => ∃ k : Nat, k ≤ l1.length ∧ i = .int .i64 k ∧ l1.take k = l2.take k ∧ Below w.heap.size w wr) (fun i _ => l1.length - (intOf i).toNat)
    case atStart => exact ⟨0, Nat.zero_le _, rfl, by simp, Below.refl _ _⟩
    case round =>
      obtain ⟨k, hk, rfl, heq, hbe⟩ := hrel
      by_cases hlt : k < l1.length
      · have hlt2 : k < l2.length := by have := HL.out; omega
        obtain ⟨b1, o1, rfl, -, hc1, hcell1⟩ := (h1.ob hbe (Nat.le_refl _)).at1 hlt
        obtain ⟨b2, o2, rfl, -, hc2, hcell2⟩ := (h2.ob hbe (Nat.le_refl _)).at1 hlt2
        rw [show (icells l1)[k] = .int .i64 l1[k] by simp [icells]] at hcell1
        rw [show (icells l2)[k] = .int .i64 l2[k] by simp [icells]] at hcell2
        have p1 : (0 : Int) ≤ (k : Int) := by omega
        have p2 : (k : Int) < (l1.length : Int) := by omega
        have p3 : (k : Int) < (l2.length : Int) := by omega
        by_cases hx : l1[k] = l2[k]
        · have hx1 : (l1[k] == l2[k]) = true := by simp [hx]
          have hx2 : (l1[k] != l2[k]) = false := by simp [hx]
          have heq' : l1.take (k + 1) = l2.take (k + 1) := by
            rw [List.take_succ_eq_append_getElem hlt, List.take_succ_eq_append_getElem hlt2, heq, hx]
          have HE := hidd heq'
          clear heq heq' hx h1 h2 hc1 hc2
          generalize l1[k] = y1 at *
          generalize l2[k] = y2 at *
          go_wp2_with fail
          go_quiet (fail)
          go_wp2_with fail
          go_roundw
          case rel => exact ⟨k + 1, by omega, by go_num, HE.out, by first | exact hbe | exact hbe.drew | exact hbe.trans (Below.drewN _ _ _)⟩
          case measure => simp [intOf]; omega
        · have hx1 : (l1[k] == l2[k]) = false := by simp [hx]
          have hx2 : (l1[k] != l2[k]) = true := by simp [hx]
          have hne : l1 ≠ l2 := fun e => hx (by subst e; rfl)
          have HN := hidd hne
          clear heq hx h1 h2 hc1 hc2 hne
          generalize l1[k] = y1 at *
          generalize l2[k] = y2 at *
          go_wp2_with fail
          go_quiet (fail)
          go_wp2_with fail
          go_ret
          exact ⟨by simp [HN.out], by first | exact hbe | exact hbe.drew | exact hbe.trans (Below.drewN _ _ _)⟩
      · have he : l1 = l2 := by
          rw [List.take_of_length_le (by omega), List.take_of_length_le (by have := HL.out; omega)] at heq
          exact heq
        have HE := hidd he
        clear heq he h1 h2
        go_wp2_with fail
        go_ret
        exact ⟨by simp [HE.out], hbe⟩
  · have hb : ((l1.length : Int) == (l2.length : Int)) = false := by simp; omega
    have hb2 : ((l1.length : Int) != (l2.length : Int)) = true := by rw [bne_iff_ne]; omega
    have hne : l1 ≠ l2 := fun e => hlen (by rw [e])
    have HN := hidd hne
    clear hlen hne
    go_enter Tryz.func11, Tryz.ntmps11
    go_wp2_with fail
    go_ret
    exact ⟨by simp [HN.out], Below.refl _ _⟩
end Go.Proofs.YtcpilhembdphoaaGreatDoor
