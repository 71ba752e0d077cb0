/- The contracts of space.Copy and of stillroomref2.NeedOf; Used of a copy. Condition: the receiver is a space that New gave. -/
import Derived.Test.YtgckmlafpmnekaaDoorSp5
import Derived.Test.YtgckmlafpmnekaaDoorApp
import Derived.WalkSpells
import Derived.Laws.Cover3
namespace Go.Proofs.YtgckmlafpmnekaaDoor
open Go.RowKit

def need (b : Int) : Int := if b < 1 then 0 else (b - 1) / 16 + 1
theorem need_eq (b : Int) : need b = if b < 1 then 0 else (b - 1) / 16 + 1 := rfl

theorem needOf_any (b : Int) (w : World) (h1 : b ≤ 1000000) (h2 : -9223372036854775808 ≤ b) : Calls Tryd.prog 33 #[.int .i64 b] w fun e w' => e = .returned (.int .i64 (need b)) ∧ w = w' := by
  go_enter Tryd.func33, Tryd.ntmps33
  go_wp2_with fail
  go_loop [0, 3] (fun c m => ∃ k : Nat, (k : Int) ≤ need b ∧ c = .int .i64 (b - 16 * k) ∧ m = .int .i64 k) (fun c _ => (intOf c).toNat)
  case atStart => exact ⟨0, by unfold need; split <;> omega, by simp, rfl⟩
  case round =>
    obtain ⟨k, hk, rfl, rfl⟩ := hrel
    by_cases h : 0 < b - 16 * k
    · have hkb : (k : Int) ≤ 1000000 := by unfold need at hk; split at hk <;> omega
      have hk1 : ((k + 1 : Nat) : Int) ≤ need b := by unfold need at hk ⊢; split at hk <;> split <;> omega
      have hlo : (-1000000:Int) ≤ b - 16 * k := by omega
      have hhi : b - 16 * (k:Int) ≤ 1000000 := by omega
      clear hk
      generalize hc : b - 16 * (k : Int) = c at *
      have HC := hidd hc
      clear hc
      have hwr : wrap64 (c - 16) = c - 16 := by unfold wrap64; omega
      go_wp2_with fail
      go_round
      case rel => exact ⟨k + 1, hk1, by have := HC.out; simp; omega, by go_num⟩
      case measure => simp [intOf]; omega
    · have hk1 : (k : Int) = need b := by unfold need at hk ⊢; split at hk <;> split <;> omega
      have HK := hidd hk1
      clear hk hk1
      go_wp2_with fail
      go_ret
      refine ⟨?_, rfl⟩
      rw [← HK.out]
      rfl

/-- A space that is only read. -/
structure SpRd (w : World) (p : Nat) (us : List Bool) : Prop where
  ex : ∃ r off cap, w.cell? ⟨p, 0, none⟩ = some (.slice (some ⟨r, off, none⟩) us.length cap) ∧ ∀ i (h : i < us.length), w.cell? ⟨r, off + i, none⟩ = some (.bool us[i])
  big : us.length ≤ 512
theorem SpRd.ob {w w' : World} {p : Nat} {us : List Bool} (h : SpRd w p us) (hf : Below w.heap.size w w') : SpRd w' p us := by
  obtain ⟨⟨r, off, cap, h1, h2⟩, h3⟩ := h
  refine ⟨⟨r, off, cap, ?_, fun i hi => ?_⟩, h3⟩
  · rw [hf.cell (World.block_lt_of_cell? w _ h1)]; exact h1
  · rw [hf.cell (World.block_lt_of_cell? w _ (h2 i hi))]; exact h2 i hi

set_option maxHeartbeats 1000000 in
theorem used_rd (p : Nat) (us : List Bool) (w : World) (h : SpRd w p us) : Calls Tryd.prog 31 #[.pointer (some ⟨p, 0, none⟩)] w fun e w' =>
    ∃ a cap, e = .returned (.slice a (usedTo us us.length).length cap) ∧ w'.ownsRow w.heap.size 3 1 (.slice a (usedTo us us.length).length cap) (usedTo us us.length).length (ints (usedTo us us.length)) ∧ Below w.heap.size w w' := by
  obtain ⟨i0, hi, hz0, hz1, hz2⟩ := info_parts infoI
  obtain ⟨⟨r, off, rcap, h1, h2⟩, h5⟩ := h
  have h1lt := World.block_lt_of_cell? w _ h1
  go_enter Tryd.func31, Tryd.ntmps31
  go_wp2
  go_loopw [3, 11] (fun v i wr => ∃ k : Nat, k ≤ us.length ∧ i = .int .i64 k ∧ wr.ownsRow w.heap.size 3 1 v (usedTo us k).length (ints (usedTo us k)) ∧ Below w.heap.size w wr) (fun _ i _ => us.length - (intOf i).toNat)
  case atStart => exact ⟨0, by omega, rfl, by simpa [usedTo, ints] using World.ownsRow_nil w w.heap.size 3 1, Below.refl _ _⟩
  case round =>
    obtain ⟨k, hk, rfl, hown, hb⟩ := hrel
    have hle := usedTo_le us k
    by_cases hlt : k < us.length
    · have hcell : wr.cell? ⟨r, off + k, none⟩ = some (.bool us[k]) := by rw [hb.cell (World.block_lt_of_cell? w _ (h2 k hlt))]; exact h2 k hlt
      have hgd : us.getD k false = us[k] := by rw [List.getD_eq_getElem?_getD, List.getElem?_eq_getElem hlt]; rfl
      cases hu : us.getD k false
      · have H1 := hidd (usedTo_succ_f hu)
        rw [← hgd, hu] at hcell
        clear hu h2 hgd
        go_wp2
        go_roundw
        case rel => exact ⟨k+1, by omega, by go_num, by rw [H1.out]; exact hown, hb⟩
        case measure => simp [intOf]; omega
      · have H1 := hidd (usedTo_succ_t hu)
        rw [← hgd, hu] at hcell
        have hsz := hb.size
        clear hu h2 hgd
        go_wp2_with (at_builtin; refine wpList_append_own _ rfl _ _ 22 rfl w.heap.size 3 i0 (.int .i64 0) 1 8 Tryd.underlying22 hi hz0 hz1 hz2 rfl (by decide) _ _ _ rfl (hown.alloc _) ⟨wr.heap.size, 0, none⟩ 1 1 [.int .i64 k] rfl rfl ?c1 ?c2 ?c3 ?c4 ?c5 ?_)
        case c1 => exact cell_one_new' _ _ _
        case c2 => simp [Value.oneCell']
        case c3 => unfold maxLen; omega
        case c4 => omega
        case c5 => simp; omega
        intro v' w1 hown' hgrow _
        go_wp2
        go_roundw
        case rel => exact ⟨k+1, by omega, by go_num, by rw [H1.out, ints_snoc, List.length_append]; simpa using hown', (hb.alloc hsz _).grown hgrow (by simp; omega) (fun k hk => (hown.lt k hk).1)⟩
        case measure => simp [intOf]; omega
    · obtain rfl : k = us.length := by omega
      obtain ⟨ad, cap, rfl⟩ := owns_slice hown
      clear h2
      go_wp2
      go_ret
      exact ⟨_, _, rfl, hown, hb⟩

/-- The result of Copy. -/
def CpPost (us : List Bool) (w : World) (e : Ending) (w' : World) : Prop := ∃ p, e = .returned (.pointer (some ⟨p, 0, none⟩)) ∧ SpRd w' p us ∧ Below w.heap.size w w'

@[go_sem] theorem run_eql_slice_nil {P : Program} (w : World) (t e : TypeId) (a : Option Addr) (l c : Nat) (h : P.underlying t = some (.slice e)) : (Go.binOp .eql t (.slice a l c) (.slice none 0 0)).run P w = .ok (.bool a.isNone) w := by
  simp only [Go.binOp]
  simp [Go.run_equal_slice_nil w t e a l c h]

set_option maxRecDepth 100000 in
theorem clone_bool (v : Value) (us : List Bool) (w : World) (h : Sl w v (us.map Value.bool) us.length 1) (h0 : 0 < us.length) (h5 : us.length ≤ 512) :
    Calls Tryd.prog 78 #[v] w fun e w' => ∃ a cap, e = .returned (.slice a us.length cap) ∧ Ow (fun g => w.heap.size ≤ g) w' 4 1 (.slice a us.length cap) us.length (us.map Value.bool) ∧ Below w.heap.size w w' := by
  obtain ⟨i0, hi, hz0, hz1, hz2⟩ := info_parts infoB
  have h1 : ∀ u ∈ us.map Value.bool, u.oneCell' = true := by
    intro u hu; obtain ⟨x, _, rfl⟩ := List.mem_map.1 hu; rfl
  obtain ⟨a, cap, rfl, hl, hn, hm, h3⟩ := id h
  obtain ⟨b, off, rfl, hbl, hcells⟩ := h3.resolve_left (by omega)
  have hs := Src.sl (P := Tryd.prog) (tx := 58) Tryd.underlying58 (h.ob ((Below.refl w.heap.size w).alloc (Nat.le_refl _) (.cells #[] 4)) (Nat.le_refl _)) h1
  have hown : Ow (fun g => w.heap.size ≤ g) (w.alloc (.cells #[] 4)) 4 1 (.slice (some ⟨w.heap.size, 0, none⟩) 0 0) 0 [] :=
    ⟨by simp, .inr ⟨w.heap.size, 0, 0, #[], rfl, Nat.le_refl _, heap_alloc_new w _, Nat.le_refl _, by unfold maxLen; omega, by simp, by simp⟩⟩
  go_enter Tryd.func78, Tryd.ntmps78
  go_wp2_with (at_builtin; refine wpList_append_ow _ rfl _ _ 58 58 rfl (fun g => w.heap.size ≤ g) ?cF 4 i0 (.bool false) 1 1 Tryd.underlying58 hi hz0 hz1 hz2 rfl (by decide) _ _ _ rfl hown _ _ _ rfl hs ?c3 ?c4 ?_)
  case cF => intro g hg; simp at hg; omega
  case c3 => unfold maxLen; omega
  case c4 => omega
  intro v' w1 hown' hgrow
  obtain ⟨a', cap', rfl⟩ := hown'.shape
  go_wp2
  go_ret
  refine ⟨a', cap', by simp, by simpa using hown', ((Below.refl _ _).alloc (Nat.le_refl _) _).grown hgrow (by simp) (fun k hk => ?_)⟩
  simp [Value.ownBlock] at hk; omega

set_option maxRecDepth 100000 in
theorem copy_any (p r : Nat) (us : List Bool) (w : World) (h : SpAt w p r us) : Calls Tryd.prog 34 #[.pointer (some ⟨p, 0, none⟩)] w (CpPost us w) := by
  have hd := h.hd
  have hs : Sl w (.slice (some ⟨r, 0, none⟩) us.length us.length) (us.map Value.bool) us.length 1 :=
    ⟨_, _, rfl, by simp, Nat.le_refl _, by have := h.big; unfold maxLen; omega, .inr ⟨r, 0, rfl, h.row.lt, fun j hj => by
      rw [Nat.zero_add]; exact h.row.cell (List.getElem?_eq_getElem hj)⟩⟩
  go_enter Tryd.func34, Tryd.ntmps34
  go_wp2_with fail
  refine (clone_bool _ us w hs h.pos h.big).mono ?_
  rintro e w1 ⟨a, cap, rfl, ho, hb⟩
  have hpos := h.pos
  have hbig := h.big
  clear h hs hd
  go_wp2_with fail
  go_ret
  refine ⟨w1.heap.size, rfl, ⟨?_, hbig⟩, hb.alloc hb.size _⟩
  rcases ho.cells with hx | ⟨g, off, rfl, -, hlt, hc⟩
  · have : us.length = 0 := by simpa using congrArg List.length hx
    omega
  · refine ⟨g, off, cap, ?_, fun i hi => ?_⟩
    · rw [World.cell?_alloc_at _ _ _ _ rfl]; rfl
    · rw [World.cell?_alloc_lt _ _ _ hlt, hc i (by simpa using hi)]; simp
end Go.Proofs.YtgckmlafpmnekaaDoor
