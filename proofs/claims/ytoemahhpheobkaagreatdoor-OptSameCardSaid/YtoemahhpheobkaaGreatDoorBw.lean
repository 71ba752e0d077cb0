/- Plain facts on a disk: what is read, what a crash keeps, a bit that is turned. No condition. · slices.Backward over the writes that wait: its contract for a loop over it. Condition: the slice's cells are there. · The contract of disk.turned. Condition: the bit lies in the text. -/
import Derived.RangeFuncNested
import Derived.RangeFuncBound
import Derived.RangeFuncCalls
import Derived.RangeFuncLeaves
import Derived.Shelf.Abstract
import Derived.Shelf.RegionOpen
import Derived.WalkKit
import Derived.OwnWalkIn
import Derived.TacticsInMore
import Derived.LoopNIn
import Derived.LoopIn
import Derived.RangeFuncBox
import Derived.Test.YtoemahhpheobkaaGreatDoorApp
import Derived.Test.YtoemahhpheobkaaGreatDoorB
import Derived.Test.YtoemahhpheobkaaGreatDoorProg
import Derived.Laws.BitsAll
import Derived.Laws.BitsAllLaws
import Derived.Laws.IdiomStrings
import Derived.Lib.ConvBytes
import Derived.RegionTactic
import Derived.BigRegion
namespace Go.Proofs.YtoemahhpheobkaaGreatDoor

/-- What is read of a block whose lasting text is d, behind the writes that wait. -/
def rdW (ws : List (Nat × ByteArray)) (k : Nat) (d : ByteArray) : ByteArray := ws.foldl (fun s x => if x.1 = k then x.2 else s) d
theorem rdW_snoc (ws : List (Nat × ByteArray)) (x : Nat × ByteArray) (k : Nat) (d : ByteArray) : rdW (ws ++ [x]) k d = if x.1 = k then x.2 else rdW ws k d := by simp [rdW]
theorem rdW_take_hit {ws : List (Nat × ByteArray)} {k i : Nat} {d : ByteArray} (h : i < ws.length) (hk : ws[i].1 = k) : rdW (ws.take (i + 1)) k d = ws[i].2 := by
  rw [List.take_succ_eq_append_getElem h, rdW_snoc, if_pos hk]
theorem rdW_take_miss {ws : List (Nat × ByteArray)} {k i : Nat} {d : ByteArray} (h : i < ws.length) (hk : ws[i].1 ≠ k) : rdW (ws.take (i + 1)) k d = rdW (ws.take i) k d := by
  rw [List.take_succ_eq_append_getElem h, rdW_snoc, if_neg hk]

/-- The lasting texts behind the first i writes, of which those of keep are made. -/
def crTo (keep : Nat → Bool) (ls : List ByteArray) (ws : List (Nat × ByteArray)) : Nat → List ByteArray
  | 0 => ls
  | i + 1 => if keep i = true ∧ i < ws.length then (crTo keep ls ws i).set (ws.getD i (0, ByteArray.empty)).1 (ws.getD i (0, ByteArray.empty)).2 else crTo keep ls ws i
theorem crTo_len (keep : Nat → Bool) (ls : List ByteArray) (ws : List (Nat × ByteArray)) : ∀ i, (crTo keep ls ws i).length = ls.length
  | 0 => rfl
  | i + 1 => by
    have := crTo_len keep ls ws i
    unfold crTo
    split <;> simp [this]
theorem crTo_y {keep : Nat → Bool} {ls : List ByteArray} {ws : List (Nat × ByteArray)} {i : Nat} (h : i < ws.length) (hk : keep i = true) : crTo keep ls ws (i + 1) = (crTo keep ls ws i).set ws[i].1 ws[i].2 := by
  have e : ws.getD i (0, ByteArray.empty) = ws[i] := by simp [List.getD_eq_getElem?_getD, List.getElem?_eq_getElem h]
  show (if keep i = true ∧ i < ws.length then _ else _) = _
  rw [if_pos ⟨hk, h⟩, e]
theorem crTo_n {keep : Nat → Bool} {ls : List ByteArray} {ws : List (Nat × ByteArray)} {i : Nat} (hk : keep i = false) : crTo keep ls ws (i + 1) = crTo keep ls ws i := by
  show (if keep i = true ∧ i < ws.length then _ else _) = _
  rw [if_neg (by simp [hk])]
/-- Each text behind it is an elder one, or one that was written there. -/
theorem crTo_src {keep : Nat → Bool} {ls : List ByteArray} {ws : List (Nat × ByteArray)} {Q : Nat → ByteArray → Prop} (h1 : ∀ j (h : j < ls.length), Q j ls[j]) (h2 : ∀ x ∈ ws, Q x.1 x.2) :
    ∀ i, ∀ j (h : j < (crTo keep ls ws i).length), Q j (crTo keep ls ws i)[j]
  | 0 => h1
  | i + 1 => by
    intro j h
    by_cases hc : keep i = true ∧ i < ws.length
    · have e := crTo_y (ls := ls) hc.2 hc.1
      have hj : j < (crTo keep ls ws i).length := by rw [crTo_len]; rwa [crTo_len] at h
      simp only [e, List.getElem_set]
      split
      · rename_i hh; subst hh; exact h2 _ (List.getElem_mem _)
      · exact crTo_src h1 h2 i j hj
    · have e : crTo keep ls ws (i + 1) = crTo keep ls ws i := by
        show (if keep i = true ∧ i < ws.length then _ else _) = _
        rw [if_neg hc]
      simp only [e]
      exact crTo_src h1 h2 i j (by rwa [e] at h)
/-- Each text that is read is a lasting one, or one that waits. -/
theorem rdW_src {ws : List (Nat × ByteArray)} {k : Nat} {d : ByteArray} {Q : ByteArray → Prop} (h1 : Q d) (h2 : ∀ x ∈ ws, x.1 = k → Q x.2) : Q (rdW ws k d) := by
  unfold rdW
  induction ws generalizing d with
  | nil => exact h1
  | cons x ws ih =>
    simp only [List.foldl_cons]
    apply ih
    · split
      · rename_i hh; exact h2 x (by simp) hh
      · exact h1
    · exact fun y hy => h2 y (by simp [hy])

/-- A bit that is turned. -/
def turn (s : ByteArray) (bit : Nat) : ByteArray := ⟨(s.data.toList.modify (bit / 8) (fun c => c ^^^ UInt8.ofNat (2 ^ (bit % 8)))).toArray⟩
theorem turn_turn (s : ByteArray) (bit : Nat) : turn (turn s bit) bit = s := by
  unfold turn
  simp only [List.modify_modify_eq]
  have : ((fun c : UInt8 => c ^^^ UInt8.ofNat (2 ^ (bit % 8))) ∘ fun c => c ^^^ UInt8.ofNat (2 ^ (bit % 8))) = id := by
    funext c; simp [UInt8.xor_assoc]
  rw [this]
  simp
theorem turn_size (s : ByteArray) (bit : Nat) : (turn s bit).size = s.size := by
  show ((s.data.toList.modify (bit / 8) (fun c => c ^^^ UInt8.ofNat (2 ^ (bit % 8)))).toArray).size = s.data.size
  rw [List.size_toArray, List.length_modify, Array.length_toList]
/-- A bit of what waits is turned. -/
def turnW (k bit : Nat) (ws : List (Nat × ByteArray)) : List (Nat × ByteArray) := ws.map fun x => if x.1 = k then (x.1, turn x.2 bit) else x
theorem turnW_turnW (k bit : Nat) (ws : List (Nat × ByteArray)) : turnW k bit (turnW k bit ws) = ws := by
  unfold turnW
  rw [List.map_map]
  conv => rhs; rw [← List.map_id ws]
  apply List.map_congr_left
  intro x _
  simp only [Function.comp, id]
  by_cases h : x.1 = k
  · rw [if_pos h]; simp only [h, if_true, turn_turn]; rw [← h]
  · rw [if_neg h, if_neg h]
end Go.Proofs.YtoemahhpheobkaaGreatDoor

namespace Go.Proofs.YtoemahhpheobkaaGreatDoor
open Go.RowKit Go.Shelf
attribute [local go_sem] Oper.semAt_some

/-- Writes as cells. -/
def wcells (ws : List (Nat × ByteArray)) : List Value := ws.flatMap fun x => [.int .i64 (x.1 : Int), .string x.2]
theorem wcells_len (ws : List (Nat × ByteArray)) : (wcells ws).length = ws.length * 2 := by
  induction ws with
  | nil => rfl
  | cons x ws ih => simp only [wcells, List.flatMap_cons] at *; simp only [List.length_append, ih, List.length_cons, List.length_nil]; omega
theorem wcells_append (a b : List (Nat × ByteArray)) : wcells (a ++ b) = wcells a ++ wcells b := by simp [wcells]
theorem wcells_at : ∀ (ws : List (Nat × ByteArray)) (i : Nat) (h : i < ws.length), (wcells ws)[i * 2]? = some (.int .i64 (ws[i].1 : Int)) ∧ (wcells ws)[i * 2 + 1]? = some (.string ws[i].2)
  | x :: ws, 0, h => ⟨rfl, rfl⟩
  | x :: ws, i + 1, h => by
    have := wcells_at ws i (by simpa using h)
    have e : wcells (x :: ws) = .int .i64 (x.1 : Int) :: .string x.2 :: wcells ws := rfl
    rw [e, show (i + 1) * 2 = i * 2 + 1 + 1 by omega]
    simpa using this

/-- What has come when k rounds are over. -/
def bwTo (ws : List (Nat × ByteArray)) (k : Nat) : List (Nat × (Nat × ByteArray)) := (List.range k).map fun j => (ws.length - 1 - j, ws.getD (ws.length - 1 - j) (0, ByteArray.empty))
theorem bwTo_succ (ws : List (Nat × ByteArray)) (k : Nat) : bwTo ws (k + 1) = bwTo ws k ++ [(ws.length - 1 - k, ws.getD (ws.length - 1 - k) (0, ByteArray.empty))] := by simp [bwTo, List.range_succ]
theorem bwTo_len (ws : List (Nat × ByteArray)) (k : Nat) : (bwTo ws k).length = k := by simp [bwTo]
def bwEnc (x : Nat × (Nat × ByteArray)) : Array Value := #[.int .i64 (x.1 : Int), .agg #[.int .i64 (x.2.1 : Int), .string x.2.2]]

set_option maxRecDepth 100000 in
set_option maxHeartbeats 2000000 in
theorem bw1_in (F : Fence) (n : Nat) (h7 : F.fn 101) (hro : F.round = none) (hn : 1 ≤ n) (l Bs n₀ b off cap : Nat) (ws : List (Nat × ByteArray)) (hm : ws.length ≤ maxLen) (hb : b < n₀) (J Jx : List (Nat × (Nat × ByteArray)) → World → Prop)
    (hY : ∀ pre x W, J pre W → pre.length < ws.length → YieldAt F (n - 1) Tryz.prog l (bwEnc x) W fun e W' =>
      (e = .returned (.bool true) ∧ J (pre ++ [x]) W' ∧ Below n₀ W W') ∨ (e = .returned (.bool false) ∧ Jx (pre ++ [x]) W'))
    (W : World) (hBs : W.cell? ⟨Bs, 0, none⟩ = some (.slice (some ⟨b, off, none⟩) ws.length cap)) (hB0 : Bs < n₀)
    (hc : ∀ j (h : j < (wcells ws).length), W.cell? ⟨b, off + j, none⟩ = some (wcells ws)[j]) (h0 : J [] W) :
    CallsIn F n Tryz.prog 101 #[.func (.yield l) #[] #[], .pointer (some ⟨Bs, 0, none⟩)] W fun e W' => (∃ v, e = .returned v) ∧
      ((∃ ys, ys = bwTo ws ws.length ∧ J ys W') ∨ (∃ pre, (∃ k, k < ws.length ∧ pre = bwTo ws (k + 1)) ∧ Jx pre W')) := by
  unfold maxLen at hm
  refine callsIn_of_wp Tryz.func101 rfl h7 ?_ hro
  simp only [Tryz.ntmps101, List.size_toArray, List.length_cons, List.length_nil, Nat.reduceAdd, Nat.reduceSub, Array.replicate_succ, Array.replicate_zero, List.push_toArray, List.append_toArray, List.nil_append, List.cons_append]
  gi_wp2
  gi_loopw [3] (fun i wr => ∃ m k : Nat, m + k = ws.length ∧ i = .int .i64 ((m : Int) - 1) ∧ J (bwTo ws k) wr ∧ Below n₀ W wr)
    (fun i _ => (intOf i + 1).toNat)
  case atStart => exact ⟨ws.length, 0, by omega, rfl, h0, Below.refl _ _⟩
  case round =>
    obtain ⟨m, k, hk, rfl, hJs, hnx⟩ := hrel
    have hBx := (hnx.cell (p := ⟨Bs, 0, none⟩) hB0).trans hBs
    cases m with
    | zero =>
      obtain rfl : k = ws.length := by omega
      have e : ((0 : Nat) : Int) - 1 = -1 := by omega
      rw [e]
      gi_wp2
      go_end0
      exact ⟨⟨_, rfl⟩, .inl ⟨_, rfl, hJs⟩⟩
    | succ m =>
      have hlt : m < ws.length := by omega
      obtain ⟨w1, w2⟩ := wcells_at ws m hlt
      have hl2 := wcells_len ws
      have hc1 : wr.cell? ⟨b, off + m * 2, none⟩ = some (.int .i64 (ws[m].1 : Int)) := (hnx.cell (p := ⟨b, off + m * 2, none⟩) hb).trans ((hc (m * 2) (by omega)).trans (by rw [← w1, List.getElem?_eq_getElem]))
      have hc2 : wr.cell? ⟨b, off + m * 2 + 1, none⟩ = some (.string ws[m].2) := (hnx.cell (p := ⟨b, off + m * 2 + 1, none⟩) hb).trans ((hc (m * 2 + 1) (by omega)).trans (by rw [← w2, List.getElem?_eq_getElem]))
      have e : ((m + 1 : Nat) : Int) - 1 = (m : Int) := by omega
      have ek : (bwTo ws k) ++ [(m, ws[m])] = bwTo ws (k + 1) := by
        rw [bwTo_succ, show ws.length - 1 - k = m by omega]
        simp [List.getD_eq_getElem?_getD, List.getElem?_eq_getElem hlt]
      have HEK : Hid ((bwTo ws k) ++ [(m, ws[m])] = bwTo ws (k + 1)) := ek
      obtain ⟨fn, tmps, assign, body, hy, hR⟩ := hY _ (m, ws[m]) wr hJs (by rw [bwTo_len]; omega)
      unfold bwEnc at hy
      dsimp only at hy
      rw [e]
      clear hc hY ek w1 w2 hl2
      have p1 : (0 : Int) ≤ (m : Int) := by omega
      have p2 : (m : Int) < (ws.length : Int) := by omega
      generalize ws[m] = x at *
      gi_wp2
      refine hR.mono ?_
      rintro e W3 (⟨rfl, hJ3, hk3⟩ | ⟨rfl, hJx3⟩)
      · gi_wp2
        go_roundw
        case rel => exact ⟨m, k + 1, by omega, rfl, by rw [← HEK.out]; exact hJ3, hnx.trans hk3⟩
        case measure => simp [intOf]
      · gi_wp2
        refine bodyPost_ret (results_none rfl _ _ _) rfl ?_
        exact ⟨⟨_, rfl⟩, .inr ⟨_, ⟨k, by omega, HEK.out⟩, hJx3⟩⟩

set_option maxRecDepth 100000 in
set_option maxHeartbeats 1000000 in
theorem bw1_nil_in (F : Fence) (n : Nat) (h7 : F.fn 101) (hro : F.round = none) (l Bs cap : Nat) (ad : Option Addr) (J : List (Nat × (Nat × ByteArray)) → World → Prop) (W : World) (hBs : W.cell? ⟨Bs, 0, none⟩ = some (.slice ad 0 cap)) (h0 : J [] W) :
    CallsIn F n Tryz.prog 101 #[.func (.yield l) #[] #[], .pointer (some ⟨Bs, 0, none⟩)] W fun e W' => (∃ v, e = .returned v) ∧ J [] W' := by
  refine callsIn_of_wp Tryz.func101 rfl h7 ?_ hro
  simp only [Tryz.ntmps101, List.size_toArray, List.length_cons, List.length_nil, Nat.reduceAdd, Nat.reduceSub, Array.replicate_succ, Array.replicate_zero, List.push_toArray, List.append_toArray, List.nil_append, List.cons_append]
  gi_wp2
  gi_loopw [3] (fun i wr => i = .int .i64 (-1) ∧ J [] wr) (fun _ _ => 0)
  case atStart => exact ⟨rfl, h0⟩
  case round =>
    obtain ⟨rfl, hJs⟩ := hrel
    gi_wp2
    go_end0
    exact ⟨⟨_, rfl⟩, hJs⟩

/-- slices.Backward: the slice value is boxed; the function value captures the box. -/
theorem bw_in (F : Fence) (n : Nat) (h5 : F.fn 81) (hro : F.round = none) (a : Option Addr) (len cap : Nat) (w : World) :
    CallsIn F n Tryz.prog 81 #[.slice a len cap] w fun e w' => e = .returned (.func (.func 101) #[] #[.pointer (some ⟨w.heap.size, 0, none⟩)]) ∧ w' = w.alloc (.cells #[.slice a len cap] 160) := by
  refine callsIn_of_wp Tryz.func81 rfl h5 ?_ hro
  simp only [Tryz.ntmps81, List.size_toArray, List.length_cons, List.length_nil, Nat.reduceAdd, Nat.reduceSub, Array.replicate_succ, Array.replicate_zero, List.push_toArray, List.append_toArray, List.nil_append, List.cons_append]
  gi_wp2
  go_ret
  exact ⟨rfl, rfl⟩

/-- What slices.Backward hands back goes over all, the last one first; or over a part. -/
theorem bw_stops (F : Fence) (n : Nat) (h7 : F.fn 101) (hro : F.round = none) (hn : 1 ≤ n) (Bs n₀ : Nat) (a : Option Addr) (cap : Nat) (ws : List (Nat × ByteArray)) (w : World) (hB0 : Bs < n₀) (hn₀ : n₀ ≤ w.heap.size)
    (hc : w.cell? ⟨Bs, 0, none⟩ = some (.slice a ws.length cap)) (hs : Sl w (.slice a ws.length cap) (wcells ws) ws.length 2) (hlow : ∀ x, a = some x → x.block < n₀) :
    SeqStopsK F n Tryz.prog 101 #[.pointer (some ⟨Bs, 0, none⟩)] bwEnc (Below n₀) (fun ys => ys = bwTo ws ws.length) (fun pre => ∃ k, k < ws.length ∧ pre = bwTo ws (k + 1)) ws.length w := fun l J Jx W hW _ _ hY h0 => by
  have hc' := (hW.cell (p := ⟨Bs, 0, none⟩) (by simp; omega)).trans hc
  have hs' := hs.ob hW (Nat.le_refl _)
  have hml : ws.length ≤ maxLen := by
    obtain ⟨_, _, he, _, h1, h2, _⟩ := hs
    omega
  by_cases h00 : ws.length = 0
  · have hnil : ws = [] := List.eq_nil_of_length_eq_zero h00
    subst hnil
    exact (bw1_nil_in F n h7 hro l Bs cap a J W hc' h0).mono fun e W' ⟨he, hj⟩ => ⟨he, .inl ⟨_, rfl, hj⟩⟩
  · obtain ⟨a', cap', he, h1, h2, h2', h3⟩ := hs'
    simp only [Value.slice.injEq] at he
    obtain ⟨rfl, _, rfl⟩ := he
    obtain ⟨b, off, rfl, hbl, hcs⟩ := h3.resolve_left h00
    exact bw1_in F n h7 hro hn l Bs n₀ b off cap ws hml (hlow _ rfl) J Jx hY W hc' hB0 hcs h0
end Go.Proofs.YtoemahhpheobkaaGreatDoor

namespace Go.Proofs.YtoemahhpheobkaaGreatDoor
open Go.RowKit
end Go.Proofs.YtoemahhpheobkaaGreatDoor
