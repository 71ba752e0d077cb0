/- What plain.Code answers of an api.Fault round a sentinel, and of an error that is none of them. Condition: the variables read as listed. -/
import Derived.Test.YtlcabkhalockpaaGreatDoorCode
namespace Go.Proofs.YtlcabkhalockpaaGreatDoor
open Go.RowKit

def HitPost (e t : Addr) (w : World) (ev : Ending) (w' : World) : Prop := ev = .returned (.bool true) ∧ w'.cell? t = some (.pointer (some e)) ∧ Fr (fun k => k = t.block) w w'
theorem as_hit' (e t : Addr) (old : Value) (w : World) (hg : Hnd w) (ht0 : w.cell? t = some old) (hf0 : w.frozen? t = false) :
    Calls Tryz.prog 37 #[.iface 56 (.pointer (some e)), .iface 77 (.pointer (some t))] w (HitPost e t w) :=
  (as_hit e t old w hg ht0 hf0).mono fun _ _ ⟨h1, h2⟩ => by
    have htl : t.block < w.heap.size := World.block_lt_of_cell? w _ ht0
    refine ⟨h1, ?_, ?_⟩
    · subst h2
      refine World.cell?_setCell_same _ _ _ (u := old) ?_
      rw [World.cell?_alloc_lt _ _ t (by simp; omega), World.cell?_alloc_lt _ _ t (by simp; omega), World.cell?_alloc_lt _ _ t (by simp; omega), World.cell?_alloc_lt _ _ t htl]; exact ht0
    · subst h2
      exact (((((Fr.refl (fun k => k = t.block) w).alloc _).alloc _).alloc _).alloc _).setCell (p := t) (.inl rfl) _

set_option maxRecDepth 100000 in
set_option maxHeartbeats 2000000 in
theorem code_fault (E : Nat → Addr) (B : Nat) (w : World) (henv : Env codeGs B w E) (hh : Hnd w) (j : Nat) (hj : j < 13) (f : Nat) (at_ : Int) (hf0 : w.cell? ⟨f, 0, none⟩ = some (.int .i64 at_)) (hf1 : w.cell? ⟨f, 1, none⟩ = some (erv E (codeGs.getD j 0))) :
    Calls Tryz.prog 23 #[.iface 56 (.pointer (some ⟨f, 0, none⟩))] w fun e w' => e = .returned (.tuple #[.int .i64 ((j : Int) + 1), .int .i64 at_]) ∧ Below w.heap.size w w' := by
  generalize hgj : codeGs.getD j 0 = gj at *
  have hgm : gj ∈ codeGs := by rw [← hgj]; exact codeGs_mem j hj
  have HG := hidd hgj
  clear hgj
  have hcell0 : ∀ g, g ∈ codeGs → w.cell? ⟨g, 0, none⟩ = some (.iface 159 (.pointer (some (E g)))) := henv.cell
  unfold erv at *
  have hflt := World.block_lt_of_cell? w _ hf0
  go_enter Tryz.func23, Tryz.ntmps23
  go_wp2_with fail
  refine (as_hit' _ _ (.pointer none) _ (hh.below ((Below.refl _ w).alloc (Nat.le_refl _) _) (Nat.le_refl _)) (by rw [World.cell?_alloc_at _ _ _ _ rfl]; rfl) (World.frozen?_alloc_at _ _ _ _ rfl)).mono ?_
  rintro e w1 ⟨rfl, hcf, hfr⟩
  have hbw : Below w.heap.size w w1 := ((Below.refl _ w).alloc (Nat.le_refl _) _).trans (hfr.below (by simp) (fun i h => by simp at h; omega))
  have hf0' : w1.cell? ⟨f, 0, none⟩ = some (.int .i64 at_) := by rw [hbw.cell (by simpa using hflt)]; exact hf0
  have hf1' : w1.cell? ⟨f, 1, none⟩ = some (.iface 159 (.pointer (some (E gj)))) := by rw [hbw.cell (by simpa using hflt)]; exact hf1
  clear hf0 hf1 hfr
  have henv1 := henv.ob hbw
  have hc0 : w1.cell? ⟨3, 0, none⟩ = some (.iface 159 (.pointer (some (E 3)))) := henv1.cell _ (by decide)
  have hc1 : w1.cell? ⟨4, 0, none⟩ = some (.iface 159 (.pointer (some (E 4)))) := henv1.cell _ (by decide)
  have hc2 : w1.cell? ⟨5, 0, none⟩ = some (.iface 159 (.pointer (some (E 5)))) := henv1.cell _ (by decide)
  have hc3 : w1.cell? ⟨6, 0, none⟩ = some (.iface 159 (.pointer (some (E 6)))) := henv1.cell _ (by decide)
  have hc4 : w1.cell? ⟨1, 0, none⟩ = some (.iface 159 (.pointer (some (E 1)))) := henv1.cell _ (by decide)
  have hc5 : w1.cell? ⟨2, 0, none⟩ = some (.iface 159 (.pointer (some (E 2)))) := henv1.cell _ (by decide)
  have hc6 : w1.cell? ⟨7, 0, none⟩ = some (.iface 159 (.pointer (some (E 7)))) := henv1.cell _ (by decide)
  have hc7 : w1.cell? ⟨0, 0, none⟩ = some (.iface 159 (.pointer (some (E 0)))) := henv1.cell _ (by decide)
  have hc8 : w1.cell? ⟨8, 0, none⟩ = some (.iface 159 (.pointer (some (E 8)))) := henv1.cell _ (by decide)
  have hc9 : w1.cell? ⟨9, 0, none⟩ = some (.iface 159 (.pointer (some (E 9)))) := henv1.cell _ (by decide)
  have hc10 : w1.cell? ⟨10, 0, none⟩ = some (.iface 159 (.pointer (some (E 10)))) := henv1.cell _ (by decide)
  have hc11 : w1.cell? ⟨11, 0, none⟩ = some (.iface 159 (.pointer (some (E 11)))) := henv1.cell _ (by decide)
  have hc12 : w1.cell? ⟨12, 0, none⟩ = some (.iface 159 (.pointer (some (E 12)))) := henv1.cell _ (by decide)
  clear hcell0
  go_wp2_with fail
  clear hc0 hc1 hc2 hc3 hc4 hc5 hc6 hc7 hc8 hc9 hc10 hc11 hc12
  generalize hW : w1.alloc _ = W2
  have hb2 : Below w.heap.size w W2 := by rw [← hW]; exact hbw.alloc hbw.size _
  have hcs : ∀ k, k < 13 → W2.cell? ⟨w1.heap.size, k, none⟩ = some (.iface 159 (.pointer (some (E (codeGs.getD k 0))))) := by
    intro k hk
    rw [← hW, World.cell?_alloc_at _ _ _ _ rfl]
    match k, hk with
    | 0, _ => rfl
    | 1, _ => rfl
    | 2, _ => rfl
    | 3, _ => rfl
    | 4, _ => rfl
    | 5, _ => rfl
    | 6, _ => rfl
    | 7, _ => rfl
    | 8, _ => rfl
    | 9, _ => rfl
    | 10, _ => rfl
    | 11, _ => rfl
    | 12, _ => rfl
  have henv2 := henv.ob hb2
  have hf2 : W2.cell? ⟨f, 1, none⟩ = some (.iface 159 (.pointer (some (E gj)))) := by
    rw [← hW, World.cell?_alloc_lt _ _ _ (by have := hbw.size; simp; omega)]; exact hf1'
  clear hW henv henv1 hbw hh hf0' hf1' hcf
  go_loop [3, 31] (fun a i => a = .int .i64 at_ ∧ ∃ k : Nat, k ≤ j ∧ i = .int .i64 k) (fun _ i => 13 - (intOf i).toNat)
  case atStart => exact ⟨rfl, 0, Nat.zero_le _, rfl⟩
  case round =>
    obtain ⟨rfl, k, hk, rfl⟩ := hrel
    have hk13 : k < 13 := by omega
    have hc := hcs k hk13
    obtain ⟨ck, tk, hbk⟩ := henv2.blk _ (codeGs_mem k hk13)
    obtain ⟨cj, tj, hbj⟩ := henv2.blk _ hgm
    by_cases hkj : k = j
    · have hE : E (codeGs.getD k 0) = E gj := by rw [hkj, HG.out]
      rw [hE] at hc
      have HK := hidd hkj
      clear hcs hE hkj hbk hbj
      go_wp2_with (go_at_call 38; refine (is_fault_same _ _ _ hf2).mono ?_; rintro e w' ⟨rfl, rfl⟩)
      go_ret2
      have := HK.out
      exact ⟨by simp [this], hb2⟩
    · have hne : E gj ≠ E (codeGs.getD k 0) := by
        refine henv2.inj _ hgm _ (codeGs_mem k hk13) (fun e => hkj ?_)
        rw [← HG.out] at e
        exact (codeGs_inj j hj k hk13 e).symm
      generalize E (codeGs.getD k 0) = ak at *
      have hlt : k < j := by omega
      clear hcs hkj
      go_wp2_with (go_at_call 38; refine (is_fault_other f _ hf2 hne hbj hbk).mono ?_; rintro e w' ⟨rfl, rfl⟩)
      go_round
      case rel => exact ⟨rfl, k + 1, by omega, by go_num⟩
      case measure => simp [intOf]; omega


set_option maxRecDepth 100000 in
set_option maxHeartbeats 2000000 in
theorem code_other (E : Nat → Addr) (B : Nat) (w : World) (henv : Env codeGs B w E) (hh : Hnd w) (a : Addr) (ca : Array Value) (ta : TypeId) (ha : w.heap[a.block]? = some (.cells ca ta (0, 0))) (hna : ∀ g, g ∈ codeGs → a ≠ E g) :
    Calls Tryz.prog 23 #[.iface 159 (.pointer (some a))] w fun e w' => e = .returned (.tuple #[.int .i64 (-1), .int .i64 (-1)]) ∧ Below w.heap.size w w' := by
  have halt : a.block < w.heap.size := (Array.getElem?_eq_some_iff.1 ha).1
  have hcell0 : ∀ g, g ∈ codeGs → w.cell? ⟨g, 0, none⟩ = some (.iface 159 (.pointer (some (E g)))) := henv.cell
  go_enter Tryz.func23, Tryz.ntmps23
  go_wp2_with fail
  refine (as_miss' _ _ _ (hh.below ((Below.refl _ w).alloc (Nat.le_refl _) _) (Nat.le_refl _))).mono ?_
  rintro e w1 ⟨rfl, hb⟩
  have hbw : Below w.heap.size w w1 := ((Below.refl _ w).alloc (Nat.le_refl _) _).trans (hb.mono (by simp))
  have henv1 := henv.ob hbw
  have hc0 : w1.cell? ⟨3, 0, none⟩ = some (.iface 159 (.pointer (some (E 3)))) := henv1.cell _ (by decide)
  have hc1 : w1.cell? ⟨4, 0, none⟩ = some (.iface 159 (.pointer (some (E 4)))) := henv1.cell _ (by decide)
  have hc2 : w1.cell? ⟨5, 0, none⟩ = some (.iface 159 (.pointer (some (E 5)))) := henv1.cell _ (by decide)
  have hc3 : w1.cell? ⟨6, 0, none⟩ = some (.iface 159 (.pointer (some (E 6)))) := henv1.cell _ (by decide)
  have hc4 : w1.cell? ⟨1, 0, none⟩ = some (.iface 159 (.pointer (some (E 1)))) := henv1.cell _ (by decide)
  have hc5 : w1.cell? ⟨2, 0, none⟩ = some (.iface 159 (.pointer (some (E 2)))) := henv1.cell _ (by decide)
  have hc6 : w1.cell? ⟨7, 0, none⟩ = some (.iface 159 (.pointer (some (E 7)))) := henv1.cell _ (by decide)
  have hc7 : w1.cell? ⟨0, 0, none⟩ = some (.iface 159 (.pointer (some (E 0)))) := henv1.cell _ (by decide)
  have hc8 : w1.cell? ⟨8, 0, none⟩ = some (.iface 159 (.pointer (some (E 8)))) := henv1.cell _ (by decide)
  have hc9 : w1.cell? ⟨9, 0, none⟩ = some (.iface 159 (.pointer (some (E 9)))) := henv1.cell _ (by decide)
  have hc10 : w1.cell? ⟨10, 0, none⟩ = some (.iface 159 (.pointer (some (E 10)))) := henv1.cell _ (by decide)
  have hc11 : w1.cell? ⟨11, 0, none⟩ = some (.iface 159 (.pointer (some (E 11)))) := henv1.cell _ (by decide)
  have hc12 : w1.cell? ⟨12, 0, none⟩ = some (.iface 159 (.pointer (some (E 12)))) := henv1.cell _ (by decide)
  clear hcell0
  go_wp2_with fail
  clear hc0 hc1 hc2 hc3 hc4 hc5 hc6 hc7 hc8 hc9 hc10 hc11 hc12
  generalize hW : w1.alloc _ = W2
  have hb2 : Below w.heap.size w W2 := by rw [← hW]; exact hbw.alloc hbw.size _
  have hcs : ∀ k, k < 13 → W2.cell? ⟨w1.heap.size, k, none⟩ = some (.iface 159 (.pointer (some (E (codeGs.getD k 0))))) := by
    intro k hk
    rw [← hW, World.cell?_alloc_at _ _ _ _ rfl]
    match k, hk with
    | 0, _ => rfl
    | 1, _ => rfl
    | 2, _ => rfl
    | 3, _ => rfl
    | 4, _ => rfl
    | 5, _ => rfl
    | 6, _ => rfl
    | 7, _ => rfl
    | 8, _ => rfl
    | 9, _ => rfl
    | 10, _ => rfl
    | 11, _ => rfl
    | 12, _ => rfl
  have henv2 := henv.ob hb2
  have ha2 : W2.heap[a.block]? = some (.cells ca ta (0, 0)) := by rw [hb2.block _ halt]; exact ha
  clear hW henv henv1 hbw hb hh
  clear ha
  go_loop [3, 31] (fun a i => a = .int .i64 (-1) ∧ ∃ k : Nat, k ≤ 13 ∧ i = .int .i64 k) (fun _ i => 13 - (intOf i).toNat)
  case atStart => exact ⟨rfl, 0, Nat.zero_le _, rfl⟩
  case round =>
    obtain ⟨rfl, k, hk, rfl⟩ := hrel
    by_cases hk13 : k < 13
    · have hc := hcs k hk13
      obtain ⟨ck, tk, hbk⟩ := henv2.blk _ (codeGs_mem k hk13)
      have hne := hna _ (codeGs_mem k hk13)
      generalize E (codeGs.getD k 0) = ak at *
      clear hcs hna
      go_wp2_with (go_at_call 38; refine (is_other _ hne ha2 hbk).mono ?_; rintro e w' ⟨rfl, rfl⟩)
      go_round
      case rel => exact ⟨rfl, k + 1, by omega, by go_num⟩
      case measure => simp [intOf]; omega
    · clear hcs hna
      go_wp2
      go_ret2
      exact ⟨rfl, hb2⟩


end Go.Proofs.YtlcabkhalockpaaGreatDoor
