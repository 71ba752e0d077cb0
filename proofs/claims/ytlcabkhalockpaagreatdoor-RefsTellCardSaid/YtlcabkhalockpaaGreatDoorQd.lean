/- slices.Backward over packs: its contract for a loop over it. Condition: the slice's cells are there. -/
import Derived.RangeFuncNested
import Derived.RangeFuncBound
import Derived.RangeFuncCalls
import Derived.RangeFuncLeaves
import Derived.Shelf.Abstract
import Derived.Shelf.RegionOpen
import Derived.WalkKit
import Derived.OwnWalkIn
import Derived.TacticsInMore
import Derived.LoopNIn
import Derived.LoopIn
import Derived.RangeFuncBox
import Derived.Test.YtlcabkhalockpaaGreatDoorQc
namespace Go.Proofs.YtlcabkhalockpaaGreatDoor
open Go.RowKit Go.Shelf
attribute [local go_sem] Oper.semAt_some

/-- What has come when k rounds are over. -/
def bpTo (ws : List Pv) (k : Nat) : List (Nat × Pv) := (List.range k).map fun j => (ws.length - 1 - j, ws.getD (ws.length - 1 - j) zPv)
theorem bpTo_succ (ws : List Pv) (k : Nat) : bpTo ws (k + 1) = bpTo ws k ++ [(ws.length - 1 - k, ws.getD (ws.length - 1 - k) zPv)] := by simp [bpTo, List.range_succ]
theorem bpTo_len (ws : List Pv) (k : Nat) : (bpTo ws k).length = k := by simp [bpTo]
def bpEnc (x : Nat × Pv) : Array Value := #[.int .i64 (x.1 : Int), .agg #[.string x.2.name, .slice x.2.ra x.2.refs.length x.2.rc, .string x.2.k, .string x.2.d, .bool x.2.e, .slice x.2.ta x.2.tn x.2.tc]]

set_option maxRecDepth 100000 in
set_option maxHeartbeats 2000000 in
theorem bp1_in (F : Fence) (n : Nat) (h7 : F.fn 49) (hro : F.round = none) (hn : 1 ≤ n) (l Bs b off cap : Nat) (ws : List Pv) (hm : ws.length ≤ maxLen) (S : Nat → Prop) (hb : ¬ S b) (J Jx : List (Nat × Pv) → World → Prop)
    (hY : ∀ pre x W, J pre W → pre.length < ws.length → YieldAt F (n - 1) Tryz.prog l (bpEnc x) W fun e W' =>
      (e = .returned (.bool true) ∧ J (pre ++ [x]) W' ∧ Fr S W W') ∨ (e = .returned (.bool false) ∧ Jx (pre ++ [x]) W'))
    (W : World) (hBs : W.cell? ⟨Bs, 0, none⟩ = some (.slice (some ⟨b, off, none⟩) ws.length cap)) (hB0 : ¬ S Bs)
    (hc : ∀ j (h : j < (pkcells ws).length), W.cell? ⟨b, off + j, none⟩ = some (pkcells ws)[j]) (h0 : J [] W) :
    CallsIn F n Tryz.prog 49 #[.func (.yield l) #[] #[], .pointer (some ⟨Bs, 0, none⟩)] W fun e W' => (∃ v, e = .returned v) ∧
      ((∃ ys, ys = bpTo ws ws.length ∧ J ys W') ∨ (∃ pre, (∃ k, k < ws.length ∧ pre = bpTo ws (k + 1)) ∧ Jx pre W')) := by
  unfold maxLen at hm
  refine callsIn_of_wp Tryz.func49 rfl h7 ?_ hro
  simp only [Tryz.ntmps49, List.size_toArray, List.length_cons, List.length_nil, Nat.reduceAdd, Nat.reduceSub, Array.replicate_succ, Array.replicate_zero, List.push_toArray, List.append_toArray, List.nil_append, List.cons_append]
  gi_wp2
  gi_loopw [3] (fun i wr => ∃ m k : Nat, m + k = ws.length ∧ i = .int .i64 ((m : Int) - 1) ∧ J (bpTo ws k) wr ∧ Fr S W wr)
    (fun i _ => (intOf i + 1).toNat)
  case atStart => exact ⟨ws.length, 0, by omega, rfl, h0, Fr.refl _ _⟩
  case round =>
    obtain ⟨m, k, hk, rfl, hJs, hnx⟩ := hrel
    have hBx := hnx.cell hBs hB0
    cases m with
    | zero =>
      obtain rfl : k = ws.length := by omega
      have e : ((0 : Nat) : Int) - 1 = -1 := by omega
      rw [e]
      gi_wp2
      go_end0
      exact ⟨⟨_, rfl⟩, .inl ⟨_, rfl, hJs⟩⟩
    | succ m =>
      have hlt : m < ws.length := by omega
      obtain ⟨w1, w2, w3, w4, w5, w6⟩ := pkcells_at ws m hlt
      have hl2 := pkcells_len ws
      have hc1 : wr.cell? ⟨b, off + m * 6, none⟩ = some (.string ws[m].name) := hnx.cell ((hc (m * 6) (by omega)).trans (by rw [← w1, List.getElem?_eq_getElem])) hb
      have hc2 : wr.cell? ⟨b, off + m * 6 + 1, none⟩ = some ws[m].rv := hnx.cell ((hc (m * 6 + 1) (by omega)).trans (by rw [← w2, List.getElem?_eq_getElem])) hb
      have hc3 : wr.cell? ⟨b, off + m * 6 + 2, none⟩ = some (.string ws[m].k) := hnx.cell ((hc (m * 6 + 2) (by omega)).trans (by rw [← w3, List.getElem?_eq_getElem])) hb
      have hc4 : wr.cell? ⟨b, off + m * 6 + 3, none⟩ = some (.string ws[m].d) := hnx.cell ((hc (m * 6 + 3) (by omega)).trans (by rw [← w4, List.getElem?_eq_getElem])) hb
      have hc5 : wr.cell? ⟨b, off + m * 6 + 4, none⟩ = some (.bool ws[m].e) := hnx.cell ((hc (m * 6 + 4) (by omega)).trans (by rw [← w5, List.getElem?_eq_getElem])) hb
      have hc6 : wr.cell? ⟨b, off + m * 6 + 5, none⟩ = some ws[m].tv := hnx.cell ((hc (m * 6 + 5) (by omega)).trans (by rw [← w6, List.getElem?_eq_getElem])) hb
      have e : ((m + 1 : Nat) : Int) - 1 = (m : Int) := by omega
      have ek : (bpTo ws k) ++ [(m, ws[m])] = bpTo ws (k + 1) := by
        rw [bpTo_succ, show ws.length - 1 - k = m by omega]
        simp [List.getD_eq_getElem?_getD, List.getElem?_eq_getElem hlt]
      have HEK : Hid ((bpTo ws k) ++ [(m, ws[m])] = bpTo ws (k + 1)) := ek
      obtain ⟨fn, tmps, assign, body, hy, hR⟩ := hY _ (m, ws[m]) wr hJs (by rw [bpTo_len]; omega)
      unfold bpEnc at hy
      dsimp only at hy
      rw [e]
      clear hc hY ek w1 w2 w3 w4 w5 w6 hl2
      have p1 : (0 : Int) ≤ (m : Int) := by omega
      have p2 : (m : Int) < (ws.length : Int) := by omega
      generalize ws[m] = x at *
      obtain ⟨xn, xra, xrc, xrs, xk, xd, xe, xta, xtn, xtc⟩ := x
      simp only [Pv.rv, Pv.tv] at hc1 hc2 hc3 hc4 hc5 hc6
      gi_wp2
      refine hR.mono ?_
      rintro e W3 (⟨rfl, hJ3, hk3⟩ | ⟨rfl, hJx3⟩)
      · gi_wp2
        go_roundw
        case rel => exact ⟨m, k + 1, by omega, rfl, by rw [← HEK.out]; exact hJ3, hnx.trans hk3⟩
        case measure => simp [intOf]
      · gi_wp2
        refine bodyPost_ret (results_none rfl _ _ _) rfl ?_
        exact ⟨⟨_, rfl⟩, .inr ⟨_, ⟨k, by omega, HEK.out⟩, hJx3⟩⟩

set_option maxRecDepth 100000 in
set_option maxHeartbeats 1000000 in
theorem bp1_nil_in (F : Fence) (n : Nat) (h7 : F.fn 49) (hro : F.round = none) (l Bs cap : Nat) (ad : Option Addr) (J : List (Nat × Pv) → World → Prop) (W : World) (hBs : W.cell? ⟨Bs, 0, none⟩ = some (.slice ad 0 cap)) (h0 : J [] W) :
    CallsIn F n Tryz.prog 49 #[.func (.yield l) #[] #[], .pointer (some ⟨Bs, 0, none⟩)] W fun e W' => (∃ v, e = .returned v) ∧ J [] W' := by
  refine callsIn_of_wp Tryz.func49 rfl h7 ?_ hro
  simp only [Tryz.ntmps49, List.size_toArray, List.length_cons, List.length_nil, Nat.reduceAdd, Nat.reduceSub, Array.replicate_succ, Array.replicate_zero, List.push_toArray, List.append_toArray, List.nil_append, List.cons_append]
  gi_wp2
  gi_loopw [3] (fun i wr => i = .int .i64 (-1) ∧ J [] wr) (fun _ _ => 0)
  case atStart => exact ⟨rfl, h0⟩
  case round =>
    obtain ⟨rfl, hJs⟩ := hrel
    gi_wp2
    go_end0
    exact ⟨⟨_, rfl⟩, hJs⟩

/-- slices.Backward: the slice value is boxed; the function value captures the box. -/
theorem bp_in (F : Fence) (n : Nat) (h5 : F.fn 36) (hro : F.round = none) (a : Option Addr) (len cap : Nat) (w : World) :
    CallsIn F n Tryz.prog 36 #[.slice a len cap] w fun e w' => e = .returned (.func (.func 49) #[] #[.pointer (some ⟨w.heap.size, 0, none⟩)]) ∧ w' = w.alloc (.cells #[.slice a len cap] 22) := by
  refine callsIn_of_wp Tryz.func36 rfl h5 ?_ hro
  simp only [Tryz.ntmps36, List.size_toArray, List.length_cons, List.length_nil, Nat.reduceAdd, Nat.reduceSub, Array.replicate_succ, Array.replicate_zero, List.push_toArray, List.append_toArray, List.nil_append, List.cons_append]
  gi_wp2
  go_ret
  exact ⟨rfl, rfl⟩

/-- What slices.Backward hands back goes over all, the last one first; or over a part. -/
theorem bp_stops (F : Fence) (n : Nat) (h7 : F.fn 49) (hro : F.round = none) (hn : 1 ≤ n) (Bs : Nat) (a : Option Addr) (cap : Nat) (ws : List Pv) (w : World) (S : Nat → Prop) (hB0 : ¬ S Bs)
    (hc : w.cell? ⟨Bs, 0, none⟩ = some (.slice a ws.length cap)) (hs : Sl w (.slice a ws.length cap) (pkcells ws) ws.length 6) (hlow : ws.length ≠ 0 → ∀ x, a = some x → ¬ S x.block) :
    SeqStopsK F n Tryz.prog 49 #[.pointer (some ⟨Bs, 0, none⟩)] bpEnc (Fr S) (fun ys => ys = bpTo ws ws.length) (fun pre => ∃ k, k < ws.length ∧ pre = bpTo ws (k + 1)) ws.length w := fun l J Jx W hW _ _ hY h0 => by
  have hlt : Bs < w.heap.size := World.block_lt_of_cell? w _ hc
  have hc' := (hW.cell (p := ⟨Bs, 0, none⟩) hlt).trans hc
  have hs' := hs.ob hW (Nat.le_refl _)
  have hml : ws.length ≤ maxLen := by
    obtain ⟨_, _, he, _, h1, h2, _⟩ := hs
    omega
  by_cases h00 : ws.length = 0
  · have hnil : ws = [] := List.eq_nil_of_length_eq_zero h00
    subst hnil
    exact (bp1_nil_in F n h7 hro l Bs cap a J W hc' h0).mono fun e W' ⟨he, hj⟩ => ⟨he, .inl ⟨_, rfl, hj⟩⟩
  · obtain ⟨a', cap', he, h1, h2, h2', h3⟩ := hs'
    simp only [Value.slice.injEq] at he
    obtain ⟨rfl, _, rfl⟩ := he
    obtain ⟨b, off, rfl, hbl, hcs⟩ := h3.resolve_left h00
    exact bp1_in F n h7 hro hn l Bs b off cap ws hml S (hlow h00 _ rfl) J Jx hY W hc' hB0 hcs h0
end Go.Proofs.YtlcabkhalockpaaGreatDoor
