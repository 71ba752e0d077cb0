/- What plain.Code answers of nil, of a sentinel, of an api.Fault round a sentinel. Condition: the variables read as listed. -/
import Derived.Test.YtcpilhembdphoaaGreatDoorEnv
namespace Go.Proofs.YtcpilhembdphoaaGreatDoor
open Go.RowKit

/-- The variables in the order of plain.Code. -/
def codeGs : List Nat := [6, 0, 3, 7, 8, 1, 4, 5, 9, 10, 2, 11, 12]

/-- The handle of type error. -/
def Hnd (w : World) : Prop := w.cell? ⟨13, 0, none⟩ = some (.iface 166 (.agg #[.pointer (some ⟨15, 28, none⟩)]))
theorem Hnd.below {w w' : World} {B : Nat} (h : Hnd w) (hb : Below B w w') (hB : w.heap.size ≤ B) : Hnd w' := by
  have := World.block_lt_of_cell? w _ h
  unfold Hnd at h ⊢
  rw [hb.cell (by simp at this ⊢; omega)]; exact h

theorem as_miss' (a t : Addr) (w : World) (hg : Hnd w) :
    Calls Tryz.prog 58 #[.iface 202 (.pointer (some a)), .iface 122 (.pointer (some t))] w fun ev w' => ev = .returned (.bool false) ∧ Below w.heap.size w w' :=
  (as_miss a t w hg).mono fun _ _ ⟨h1, h2⟩ => ⟨h1, by subst h2; exact (((Below.refl _ _).alloc (Nat.le_refl _) _).alloc (by simp) _).alloc (by simp; omega) _⟩

theorem code_nil (w : World) : Calls Tryz.prog 35 #[.nilIface] w fun e w' => e = .returned (.tuple #[.int .i64 0, .int .i64 (-1)]) ∧ w' = w := by
  go_enter Tryz.func35, Tryz.ntmps35
  go_wp2
  go_ret2
  exact ⟨rfl, rfl⟩

theorem codeGs_len : codeGs.length = 13 := rfl
theorem codeGs_mem (j : Nat) (h : j < 13) : codeGs.getD j 0 ∈ codeGs := by
  rw [List.getD_eq_getElem?_getD, List.getElem?_eq_getElem (by rw [codeGs_len]; exact h)]
  simp
theorem codeGs_inj : ∀ i, i < 13 → ∀ j, j < 13 → codeGs.getD i 0 = codeGs.getD j 0 → i = j := by decide

set_option maxRecDepth 100000 in
set_option maxHeartbeats 2000000 in
theorem code_sent (E : Nat → Addr) (B : Nat) (w : World) (henv : Env codeGs B w E) (hh : Hnd w) (j : Nat) (hj : j < 13) :
    Calls Tryz.prog 35 #[erv E (codeGs.getD j 0)] w fun e w' => e = .returned (.tuple #[.int .i64 ((j : Int) + 1), .int .i64 (-1)]) ∧ Below w.heap.size w w' := by
  generalize hgj : codeGs.getD j 0 = gj
  have hgm : gj ∈ codeGs := by rw [← hgj]; exact codeGs_mem j hj
  have HG := hidd hgj
  clear hgj
  have hcell0 : ∀ g, g ∈ codeGs → w.cell? ⟨g, 0, none⟩ = some (.iface 202 (.pointer (some (E g)))) := henv.cell
  unfold erv
  go_enter Tryz.func35, Tryz.ntmps35
  go_wp2_with fail
  refine (as_miss' _ _ _ (hh.below ((Below.refl _ w).alloc (Nat.le_refl _) _) (Nat.le_refl _))).mono ?_
  rintro e w1 ⟨rfl, hb⟩
  have hbw : Below w.heap.size w w1 := ((Below.refl _ w).alloc (Nat.le_refl _) _).trans (hb.mono (by simp))
  have henv1 := henv.ob hbw
  have hc0 : w1.cell? ⟨6, 0, none⟩ = some (.iface 202 (.pointer (some (E 6)))) := henv1.cell _ (by decide)
  have hc1 : w1.cell? ⟨0, 0, none⟩ = some (.iface 202 (.pointer (some (E 0)))) := henv1.cell _ (by decide)
  have hc2 : w1.cell? ⟨3, 0, none⟩ = some (.iface 202 (.pointer (some (E 3)))) := henv1.cell _ (by decide)
  have hc3 : w1.cell? ⟨7, 0, none⟩ = some (.iface 202 (.pointer (some (E 7)))) := henv1.cell _ (by decide)
  have hc4 : w1.cell? ⟨8, 0, none⟩ = some (.iface 202 (.pointer (some (E 8)))) := henv1.cell _ (by decide)
  have hc5 : w1.cell? ⟨1, 0, none⟩ = some (.iface 202 (.pointer (some (E 1)))) := henv1.cell _ (by decide)
  have hc6 : w1.cell? ⟨4, 0, none⟩ = some (.iface 202 (.pointer (some (E 4)))) := henv1.cell _ (by decide)
  have hc7 : w1.cell? ⟨5, 0, none⟩ = some (.iface 202 (.pointer (some (E 5)))) := henv1.cell _ (by decide)
  have hc8 : w1.cell? ⟨9, 0, none⟩ = some (.iface 202 (.pointer (some (E 9)))) := henv1.cell _ (by decide)
  have hc9 : w1.cell? ⟨10, 0, none⟩ = some (.iface 202 (.pointer (some (E 10)))) := henv1.cell _ (by decide)
  have hc10 : w1.cell? ⟨2, 0, none⟩ = some (.iface 202 (.pointer (some (E 2)))) := henv1.cell _ (by decide)
  have hc11 : w1.cell? ⟨11, 0, none⟩ = some (.iface 202 (.pointer (some (E 11)))) := henv1.cell _ (by decide)
  have hc12 : w1.cell? ⟨12, 0, none⟩ = some (.iface 202 (.pointer (some (E 12)))) := henv1.cell _ (by decide)
  clear hcell0
  go_wp2_with fail
  clear hc0 hc1 hc2 hc3 hc4 hc5 hc6 hc7 hc8 hc9 hc10 hc11 hc12
  generalize hW : w1.alloc _ = W2
  have hb2 : Below w.heap.size w W2 := by rw [← hW]; exact hbw.alloc hbw.size _
  have hcs : ∀ k, k < 13 → W2.cell? ⟨w1.heap.size, k, none⟩ = some (.iface 202 (.pointer (some (E (codeGs.getD k 0))))) := by
    intro k hk
    rw [← hW, World.cell?_alloc_at _ _ _ _ rfl]
    match k, hk with
    | 0, _ => rfl
    | 1, _ => rfl
    | 2, _ => rfl
    | 3, _ => rfl
    | 4, _ => rfl
    | 5, _ => rfl
    | 6, _ => rfl
    | 7, _ => rfl
    | 8, _ => rfl
    | 9, _ => rfl
    | 10, _ => rfl
    | 11, _ => rfl
    | 12, _ => rfl
  have henv2 := henv.ob hb2
  clear hW henv henv1 hbw hb hh
  go_loop [3, 31] (fun a i => a = .int .i64 (-1) ∧ ∃ k : Nat, k ≤ j ∧ i = .int .i64 k) (fun _ i => 13 - (intOf i).toNat)
  case atStart => exact ⟨rfl, 0, Nat.zero_le _, rfl⟩
  case round =>
    obtain ⟨rfl, k, hk, rfl⟩ := hrel
    have hk13 : k < 13 := by omega
    have hc := hcs k hk13
    obtain ⟨ck, tk, hbk⟩ := henv2.blk _ (codeGs_mem k hk13)
    obtain ⟨cj, tj, hbj⟩ := henv2.blk _ hgm
    by_cases hkj : k = j
    · have hE : E (codeGs.getD k 0) = E gj := by rw [hkj, HG.out]
      rw [hE] at hc
      have HK := hidd hkj
      clear hcs hE hkj hbk hbj
      go_wp2_with (go_at_call 59; refine (is_same _ _).mono ?_; rintro e w' ⟨rfl, rfl⟩)
      go_ret2
      have := HK.out
      exact ⟨by simp [this], hb2⟩
    · have hne : E gj ≠ E (codeGs.getD k 0) := by
        refine henv2.inj _ hgm _ (codeGs_mem k hk13) (fun e => hkj ?_)
        rw [← HG.out] at e
        exact (codeGs_inj j hj k hk13 e).symm
      generalize E (codeGs.getD k 0) = ak at *
      have hlt : k < j := by omega
      clear hcs hkj
      go_wp2_with (go_at_call 59; refine (is_other _ hne hbj hbk).mono ?_; rintro e w' ⟨rfl, rfl⟩)
      go_round
      case rel => exact ⟨rfl, k + 1, by omega, by go_num⟩
      case measure => simp [intOf]; omega

/-- The number of a sentinel, as a statement's 'coded' asks for it. -/
def Coded (E : Nat → Addr) (v : Value) (c : Nat) : Prop := (c = 0 ∧ v = .nilIface) ∨ ∃ j, j < 13 ∧ c = j + 1 ∧ v = erv E (codeGs.getD j 0)

theorem code_any (E : Nat → Addr) (B : Nat) (w : World) (henv : Env codeGs B w E) (hh : Hnd w) (v : Value) (c : Nat) (hc : Coded E v c) :
    Calls Tryz.prog 35 #[v] w fun e w' => e = .returned (.tuple #[.int .i64 c, .int .i64 (-1)]) ∧ Below w.heap.size w w' := by
  rcases hc with ⟨rfl, rfl⟩ | ⟨j, hj, rfl, rfl⟩
  · exact (code_nil w).mono fun _ _ ⟨h1, h2⟩ => ⟨h1, by subst h2; exact Below.refl _ _⟩
  · exact (code_sent E B w henv hh j hj).mono fun _ _ ⟨h1, h2⟩ => ⟨by rw [h1]; simp, h2⟩

end Go.Proofs.YtcpilhembdphoaaGreatDoor
