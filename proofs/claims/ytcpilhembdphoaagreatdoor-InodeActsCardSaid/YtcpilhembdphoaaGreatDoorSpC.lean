/- The contracts of space.Copy and of stillroomref2.NeedOf; Used of a copy. Condition: the receiver is a space that New gave. -/
import Derived.Test.YtcpilhembdphoaaGreatDoorSp5
import Derived.Test.YtcpilhembdphoaaGreatDoorApp
import Derived.WalkSpells
import Derived.Laws.Cover3
namespace Go.Proofs.YtcpilhembdphoaaGreatDoor
open Go.RowKit
@[go_sem] theorem run_eql_slice_nil {P : Program} (w : World) (t e : TypeId) (a : Option Addr) (l c : Nat) (h : P.underlying t = some (.slice e)) : (Go.binOp .eql t (.slice a l c) (.slice none 0 0)).run P w = .ok (.bool a.isNone) w := by
  simp only [Go.binOp]
  simp [Go.run_equal_slice_nil w t e a l c h]


def need (b : Int) : Int := if b < 1 then 0 else (b - 1) / 16 + 1
theorem need_eq (b : Int) : need b = if b < 1 then 0 else (b - 1) / 16 + 1 := rfl

theorem needOf_any (b : Int) (w : World) (h1 : b ≤ 1000000) (h2 : -9223372036854775808 ≤ b) : Calls Tryz.prog 60 #[.int .i64 b] w fun e w' => e = .returned (.int .i64 (need b)) ∧ w = w' := by
  go_enter Tryz.func60, Tryz.ntmps60
  go_wp2_with fail
  go_loop [0, 3] (fun c m => ∃ k : Nat, (k : Int) ≤ need b ∧ c = .int .i64 (b - 16 * k) ∧ m = .int .i64 k) (fun c _ => (intOf c).toNat)
  case atStart => exact ⟨0, by unfold need; split <;> omega, by simp, rfl⟩
  case round =>
    obtain ⟨k, hk, rfl, rfl⟩ := hrel
    by_cases h : 0 < b - 16 * k
    · have hkb : (k : Int) ≤ 1000000 := by unfold need at hk; split at hk <;> omega
      have hk1 : ((k + 1 : Nat) : Int) ≤ need b := by unfold need at hk ⊢; split at hk <;> split <;> omega
      have hlo : (-1000000:Int) ≤ b - 16 * k := by omega
      have hhi : b - 16 * (k:Int) ≤ 1000000 := by omega
      clear hk
      generalize hc : b - 16 * (k : Int) = c at *
      have HC := hidd hc
      clear hc
      have hwr : wrap64 (c - 16) = c - 16 := by unfold wrap64; omega
      go_wp2_with fail
      go_round
      case rel => exact ⟨k + 1, hk1, by have := HC.out; simp; omega, by go_num⟩
      case measure => simp [intOf]; omega
    · have hk1 : (k : Int) = need b := by unfold need at hk ⊢; split at hk <;> split <;> omega
      have HK := hidd hk1
      clear hk hk1
      go_wp2_with fail
      go_ret
      refine ⟨?_, rfl⟩
      rw [← HK.out]
      rfl

/-- A space that is only read. -/
structure SpRd (w : World) (p : Nat) (us : List Bool) : Prop where
  ex : ∃ r off cap, w.cell? ⟨p, 0, none⟩ = some (.slice (some ⟨r, off, none⟩) us.length cap) ∧ ∀ i (h : i < us.length), w.cell? ⟨r, off + i, none⟩ = some (.bool us[i])
  big : us.length ≤ 512
theorem SpRd.ob {w w' : World} {p : Nat} {us : List Bool} (h : SpRd w p us) (hf : Below w.heap.size w w') : SpRd w' p us := by
  obtain ⟨⟨r, off, cap, h1, h2⟩, h3⟩ := h
  refine ⟨⟨r, off, cap, ?_, fun i hi => ?_⟩, h3⟩
  · rw [hf.cell (World.block_lt_of_cell? w _ h1)]; exact h1
  · rw [hf.cell (World.block_lt_of_cell? w _ (h2 i hi))]; exact h2 i hi

set_option maxHeartbeats 1000000 in
theorem used_rd (p : Nat) (us : List Bool) (w : World) (h : SpRd w p us) : Calls Tryz.prog 71 #[.pointer (some ⟨p, 0, none⟩)] w fun e w' =>
    ∃ a cap, e = .returned (.slice a (usedTo us us.length).length cap) ∧ w'.ownsRow w.heap.size 3 1 (.slice a (usedTo us us.length).length cap) (usedTo us us.length).length (ints (usedTo us us.length)) ∧ Below w.heap.size w w' := by
  obtain ⟨i0, hi, hz0, hz1, hz2⟩ := info_parts infoI
  obtain ⟨⟨r, off, rcap, h1, h2⟩, h5⟩ := h
  have h1lt := World.block_lt_of_cell? w _ h1
  go_enter Tryz.func71, Tryz.ntmps71
  go_wp2
  go_loopw [3, 11] (fun v i wr => ∃ k : Nat, k ≤ us.length ∧ i = .int .i64 k ∧ wr.ownsRow w.heap.size 3 1 v (usedTo us k).length (ints (usedTo us k)) ∧ Below w.heap.size w wr) (fun _ i _ => us.length - (intOf i).toNat)
  case atStart => exact ⟨0, by omega, rfl, by simpa [usedTo, ints] using World.ownsRow_nil w w.heap.size 3 1, Below.refl _ _⟩
  case round =>
    obtain ⟨k, hk, rfl, hown, hb⟩ := hrel
    have hle := usedTo_le us k
    by_cases hlt : k < us.length
    · have hcell : wr.cell? ⟨r, off + k, none⟩ = some (.bool us[k]) := by rw [hb.cell (World.block_lt_of_cell? w _ (h2 k hlt))]; exact h2 k hlt
      have hgd : us.getD k false = us[k] := by rw [List.getD_eq_getElem?_getD, List.getElem?_eq_getElem hlt]; rfl
      cases hu : us.getD k false
      · have H1 := hidd (usedTo_succ_f hu)
        rw [← hgd, hu] at hcell
        clear hu h2 hgd
        go_wp2
        go_roundw
        case rel => exact ⟨k+1, by omega, by go_num, by rw [H1.out]; exact hown, hb⟩
        case measure => simp [intOf]; omega
      · have H1 := hidd (usedTo_succ_t hu)
        rw [← hgd, hu] at hcell
        have hsz := hb.size
        clear hu h2 hgd
        go_wp2_with (at_builtin; refine wpList_append_own _ rfl _ _ 31 rfl w.heap.size 3 i0 (.int .i64 0) 1 8 Tryz.underlying31 hi hz0 hz1 hz2 rfl (by decide) _ _ _ rfl (hown.alloc _) ⟨wr.heap.size, 0, none⟩ 1 1 [.int .i64 k] rfl rfl ?c1 ?c2 ?c3 ?c4 ?c5 ?_)
        case c1 => exact cell_one_new' _ _ _
        case c2 => simp [Value.oneCell']
        case c3 => unfold maxLen; omega
        case c4 => omega
        case c5 => simp; omega
        intro v' w1 hown' hgrow _
        go_wp2
        go_roundw
        case rel => exact ⟨k+1, by omega, by go_num, by rw [H1.out, ints_snoc, List.length_append]; simpa using hown', (hb.alloc hsz _).grown hgrow (by simp; omega) (fun k hk => (hown.lt k hk).1)⟩
        case measure => simp [intOf]; omega
    · obtain rfl : k = us.length := by omega
      obtain ⟨ad, cap, rfl⟩ := owns_slice hown
      clear h2
      go_wp2
      go_ret
      exact ⟨_, _, rfl, hown, hb⟩

/-- The result of Copy. -/
def CpPost (us : List Bool) (w : World) (e : Ending) (w' : World) : Prop := ∃ p, e = .returned (.pointer (some ⟨p, 0, none⟩)) ∧ SpRd w' p us ∧ Below w.heap.size w w'

end Go.Proofs.YtcpilhembdphoaaGreatDoor
