/- slices.Backward over the writes that wait: its contract for a loop over it. Condition: the slice's cells are there. -/
import Derived.RangeFuncNested
import Derived.RangeFuncBound
import Derived.RangeFuncCalls
import Derived.RangeFuncLeaves
import Derived.Shelf.Abstract
import Derived.Shelf.RegionOpen
import Derived.WalkKit
import Derived.OwnWalkIn
import Derived.TacticsInMore
import Derived.LoopNIn
import Derived.LoopIn
import Derived.RangeFuncBox
import Derived.Test.YtcpilhembdphoaaGreatDoorSl
import Derived.Test.YtcpilhembdphoaaGreatDoorDkP
namespace Go.Proofs.YtcpilhembdphoaaGreatDoor
open Go.RowKit Go.Shelf
attribute [local go_sem] Oper.semAt_some

/-- Writes as cells. -/
def wcells (ws : List (Nat × ByteArray)) : List Value := ws.flatMap fun x => [.int .i64 (x.1 : Int), .string x.2]
theorem wcells_len (ws : List (Nat × ByteArray)) : (wcells ws).length = ws.length * 2 := by
  induction ws with
  | nil => rfl
  | cons x ws ih => simp only [wcells, List.flatMap_cons] at *; simp only [List.length_append, ih, List.length_cons, List.length_nil]; omega
theorem wcells_append (a b : List (Nat × ByteArray)) : wcells (a ++ b) = wcells a ++ wcells b := by simp [wcells]
theorem wcells_at : ∀ (ws : List (Nat × ByteArray)) (i : Nat) (h : i < ws.length), (wcells ws)[i * 2]? = some (.int .i64 (ws[i].1 : Int)) ∧ (wcells ws)[i * 2 + 1]? = some (.string ws[i].2)
  | x :: ws, 0, h => ⟨rfl, rfl⟩
  | x :: ws, i + 1, h => by
    have := wcells_at ws i (by simpa using h)
    have e : wcells (x :: ws) = .int .i64 (x.1 : Int) :: .string x.2 :: wcells ws := rfl
    rw [e, show (i + 1) * 2 = i * 2 + 1 + 1 by omega]
    simpa using this

/-- What has come when k rounds are over. -/
def bwTo (ws : List (Nat × ByteArray)) (k : Nat) : List (Nat × (Nat × ByteArray)) := (List.range k).map fun j => (ws.length - 1 - j, ws.getD (ws.length - 1 - j) (0, ByteArray.empty))
theorem bwTo_succ (ws : List (Nat × ByteArray)) (k : Nat) : bwTo ws (k + 1) = bwTo ws k ++ [(ws.length - 1 - k, ws.getD (ws.length - 1 - k) (0, ByteArray.empty))] := by simp [bwTo, List.range_succ]
theorem bwTo_len (ws : List (Nat × ByteArray)) (k : Nat) : (bwTo ws k).length = k := by simp [bwTo]
def bwEnc (x : Nat × (Nat × ByteArray)) : Array Value := #[.int .i64 (x.1 : Int), .agg #[.int .i64 (x.2.1 : Int), .string x.2.2]]

set_option maxRecDepth 100000 in
set_option maxHeartbeats 2000000 in
theorem bw1_in (F : Fence) (n : Nat) (h7 : F.fn 75) (hro : F.round = none) (hn : 1 ≤ n) (l Bs n₀ b off cap : Nat) (ws : List (Nat × ByteArray)) (hm : ws.length ≤ maxLen) (hb : b < n₀) (J Jx : List (Nat × (Nat × ByteArray)) → World → Prop)
    (hY : ∀ pre x W, J pre W → pre.length < ws.length → YieldAt F (n - 1) Tryz.prog l (bwEnc x) W fun e W' =>
      (e = .returned (.bool true) ∧ J (pre ++ [x]) W' ∧ Below n₀ W W') ∨ (e = .returned (.bool false) ∧ Jx (pre ++ [x]) W'))
    (W : World) (hBs : W.cell? ⟨Bs, 0, none⟩ = some (.slice (some ⟨b, off, none⟩) ws.length cap)) (hB0 : Bs < n₀)
    (hc : ∀ j (h : j < (wcells ws).length), W.cell? ⟨b, off + j, none⟩ = some (wcells ws)[j]) (h0 : J [] W) :
    CallsIn F n Tryz.prog 75 #[.func (.yield l) #[] #[], .pointer (some ⟨Bs, 0, none⟩)] W fun e W' => (∃ v, e = .returned v) ∧
      ((∃ ys, ys = bwTo ws ws.length ∧ J ys W') ∨ (∃ pre, (∃ k, k < ws.length ∧ pre = bwTo ws (k + 1)) ∧ Jx pre W')) := by
  unfold maxLen at hm
  refine callsIn_of_wp Tryz.func75 rfl h7 ?_ hro
  simp only [Tryz.ntmps75, List.size_toArray, List.length_cons, List.length_nil, Nat.reduceAdd, Nat.reduceSub, Array.replicate_succ, Array.replicate_zero, List.push_toArray, List.append_toArray, List.nil_append, List.cons_append]
  gi_wp2
  gi_loopw [3] (fun i wr => ∃ m k : Nat, m + k = ws.length ∧ i = .int .i64 ((m : Int) - 1) ∧ J (bwTo ws k) wr ∧ Below n₀ W wr)
    (fun i _ => (intOf i + 1).toNat)
  case atStart => exact ⟨ws.length, 0, by omega, rfl, h0, Below.refl _ _⟩
  case round =>
    obtain ⟨m, k, hk, rfl, hJs, hnx⟩ := hrel
    have hBx := (hnx.cell (p := ⟨Bs, 0, none⟩) hB0).trans hBs
    cases m with
    | zero =>
      obtain rfl : k = ws.length := by omega
      have e : ((0 : Nat) : Int) - 1 = -1 := by omega
      rw [e]
      gi_wp2
      go_end0
      exact ⟨⟨_, rfl⟩, .inl ⟨_, rfl, hJs⟩⟩
    | succ m =>
      have hlt : m < ws.length := by omega
      obtain ⟨w1, w2⟩ := wcells_at ws m hlt
      have hl2 := wcells_len ws
      have hc1 : wr.cell? ⟨b, off + m * 2, none⟩ = some (.int .i64 (ws[m].1 : Int)) := (hnx.cell (p := ⟨b, off + m * 2, none⟩) hb).trans ((hc (m * 2) (by omega)).trans (by rw [← w1, List.getElem?_eq_getElem]))
      have hc2 : wr.cell? ⟨b, off + m * 2 + 1, none⟩ = some (.string ws[m].2) := (hnx.cell (p := ⟨b, off + m * 2 + 1, none⟩) hb).trans ((hc (m * 2 + 1) (by omega)).trans (by rw [← w2, List.getElem?_eq_getElem]))
      have e : ((m + 1 : Nat) : Int) - 1 = (m : Int) := by omega
      have ek : (bwTo ws k) ++ [(m, ws[m])] = bwTo ws (k + 1) := by
        rw [bwTo_succ, show ws.length - 1 - k = m by omega]
        simp [List.getD_eq_getElem?_getD, List.getElem?_eq_getElem hlt]
      have HEK : Hid ((bwTo ws k) ++ [(m, ws[m])] = bwTo ws (k + 1)) := ek
      obtain ⟨fn, tmps, assign, body, hy, hR⟩ := hY _ (m, ws[m]) wr hJs (by rw [bwTo_len]; omega)
      unfold bwEnc at hy
      dsimp only at hy
      rw [e]
      clear hc hY ek w1 w2 hl2
      have p1 : (0 : Int) ≤ (m : Int) := by omega
      have p2 : (m : Int) < (ws.length : Int) := by omega
      generalize ws[m] = x at *
      gi_wp2
      refine hR.mono ?_
      rintro e W3 (⟨rfl, hJ3, hk3⟩ | ⟨rfl, hJx3⟩)
      · gi_wp2
        go_roundw
        case rel => exact ⟨m, k + 1, by omega, rfl, by rw [← HEK.out]; exact hJ3, hnx.trans hk3⟩
        case measure => simp [intOf]
      · gi_wp2
        refine bodyPost_ret (results_none rfl _ _ _) rfl ?_
        exact ⟨⟨_, rfl⟩, .inr ⟨_, ⟨k, by omega, HEK.out⟩, hJx3⟩⟩

set_option maxRecDepth 100000 in
set_option maxHeartbeats 1000000 in
theorem bw1_nil_in (F : Fence) (n : Nat) (h7 : F.fn 75) (hro : F.round = none) (l Bs cap : Nat) (ad : Option Addr) (J : List (Nat × (Nat × ByteArray)) → World → Prop) (W : World) (hBs : W.cell? ⟨Bs, 0, none⟩ = some (.slice ad 0 cap)) (h0 : J [] W) :
    CallsIn F n Tryz.prog 75 #[.func (.yield l) #[] #[], .pointer (some ⟨Bs, 0, none⟩)] W fun e W' => (∃ v, e = .returned v) ∧ J [] W' := by
  refine callsIn_of_wp Tryz.func75 rfl h7 ?_ hro
  simp only [Tryz.ntmps75, List.size_toArray, List.length_cons, List.length_nil, Nat.reduceAdd, Nat.reduceSub, Array.replicate_succ, Array.replicate_zero, List.push_toArray, List.append_toArray, List.nil_append, List.cons_append]
  gi_wp2
  gi_loopw [3] (fun i wr => i = .int .i64 (-1) ∧ J [] wr) (fun _ _ => 0)
  case atStart => exact ⟨rfl, h0⟩
  case round =>
    obtain ⟨rfl, hJs⟩ := hrel
    gi_wp2
    go_end0
    exact ⟨⟨_, rfl⟩, hJs⟩

/-- slices.Backward: the slice value is boxed; the function value captures the box. -/
theorem bw_in (F : Fence) (n : Nat) (h5 : F.fn 56) (hro : F.round = none) (a : Option Addr) (len cap : Nat) (w : World) :
    CallsIn F n Tryz.prog 56 #[.slice a len cap] w fun e w' => e = .returned (.func (.func 75) #[] #[.pointer (some ⟨w.heap.size, 0, none⟩)]) ∧ w' = w.alloc (.cells #[.slice a len cap] 78) := by
  refine callsIn_of_wp Tryz.func56 rfl h5 ?_ hro
  simp only [Tryz.ntmps56, List.size_toArray, List.length_cons, List.length_nil, Nat.reduceAdd, Nat.reduceSub, Array.replicate_succ, Array.replicate_zero, List.push_toArray, List.append_toArray, List.nil_append, List.cons_append]
  gi_wp2
  go_ret
  exact ⟨rfl, rfl⟩

/-- What slices.Backward hands back goes over all, the last one first; or over a part. -/
theorem bw_stops (F : Fence) (n : Nat) (h7 : F.fn 75) (hro : F.round = none) (hn : 1 ≤ n) (Bs n₀ : Nat) (a : Option Addr) (cap : Nat) (ws : List (Nat × ByteArray)) (w : World) (hB0 : Bs < n₀) (hn₀ : n₀ ≤ w.heap.size)
    (hc : w.cell? ⟨Bs, 0, none⟩ = some (.slice a ws.length cap)) (hs : Sl w (.slice a ws.length cap) (wcells ws) ws.length 2) (hlow : ∀ x, a = some x → x.block < n₀) :
    SeqStopsK F n Tryz.prog 75 #[.pointer (some ⟨Bs, 0, none⟩)] bwEnc (Below n₀) (fun ys => ys = bwTo ws ws.length) (fun pre => ∃ k, k < ws.length ∧ pre = bwTo ws (k + 1)) ws.length w := fun l J Jx W hW _ _ hY h0 => by
  have hc' := (hW.cell (p := ⟨Bs, 0, none⟩) (by simp; omega)).trans hc
  have hs' := hs.ob hW (Nat.le_refl _)
  have hml : ws.length ≤ maxLen := by
    obtain ⟨_, _, he, _, h1, h2, _⟩ := hs
    omega
  by_cases h00 : ws.length = 0
  · have hnil : ws = [] := List.eq_nil_of_length_eq_zero h00
    subst hnil
    exact (bw1_nil_in F n h7 hro l Bs cap a J W hc' h0).mono fun e W' ⟨he, hj⟩ => ⟨he, .inl ⟨_, rfl, hj⟩⟩
  · obtain ⟨a', cap', he, h1, h2, h2', h3⟩ := hs'
    simp only [Value.slice.injEq] at he
    obtain ⟨rfl, _, rfl⟩ := he
    obtain ⟨b, off, rfl, hbl, hcs⟩ := h3.resolve_left h00
    exact bw1_in F n h7 hro hn l Bs n₀ b off cap ws hml (hlow _ rfl) J Jx hY W hc' hB0 hcs h0
end Go.Proofs.YtcpilhembdphoaaGreatDoor
