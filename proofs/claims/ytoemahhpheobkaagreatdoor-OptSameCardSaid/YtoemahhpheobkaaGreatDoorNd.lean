/- The contract of the reference's NewDisk, where its disk is never asked: it gives a pointer. Condition: at most 512 blocks. -/
import Derived.Test.YtoemahhpheobkaaGreatDoorDkN
import Derived.Deep.RegionLaw
namespace Go.Proofs.YtoemahhpheobkaaGreatDoor
open Go.RowKit

/-- append onto a slice that is owned, as one step of a region that draws. -/
theorem step_append_ow {P : Program} {ops : Array Oper} {o : Oper} {a : Act} {w : World} {K : Act → World → Prop} {Q : Exit → Act → World → Prop} {E : Prop} (hgd : o.guard = none) (s x : Operand) (t tx : TypeId)
    (ho : o.op = .call { callee := .builtin .append, args := #[s, x], argTypes := #[t, tx] })
    (F : Nat → Prop) (hF : ∀ g, w.heap.size ≤ g → F g) (e : TypeId) (i : TypeInfo) (z : Value) (size bytes : Nat) (ht : P.underlying t = some (.slice e)) (hi : P.info? e = some i) (hz : i.zero = some z)
    (hsize : i.size = size) (hby : i.bytes = bytes) (hzs : z.cells.size = size) (hsz : 0 < size)
    (v : Value) (n : Nat) (xs : List Value) (hv : a.eval s = v) (hown : Ow F w e size v n xs) (y : Value) (m : Nat) (news : List Value) (hy : a.eval x = y) (hs : Src P size tx y m news w)
    (h63 : n + m ≤ maxLen) (hbytes : (n + m) * bytes ≤ 140737488355328)
    (h : ∀ v' w', Ow F w' e size v' (n + m) (xs ++ news) → w.grownBy w' v.ownBlock → K (a.put o.dst v') w') :
    if Region.wanted o (yielded ops a.tmps) = true then Oper.wp P o a w K Q else E := by
  have hw : Region.wanted o (yielded ops a.tmps) = true := by simp [Region.wanted, hgd]
  rw [if_pos hw]
  obtain ⟨v', w', hr, h2, h3⟩ := run_append_ow (P := P) w F hF t tx o.type e i z size bytes ht hi hz hsize hby hzs hsz v n xs hown y m news hs h63 hbytes
  unfold Oper.wp execOp
  simp only [ho, resolve, invoke, builtin, Sem.run_bind, Sem.run_pure, Result.andThen_ok, List.map_toArray, List.map_cons, List.map_nil, hv, hy, hr]
  exact h v' w' h2 h3

theorem rzeros_any (w : World) : Calls Tryz.prog 83 #[] w fun e w' => e = .returned (.string (zb 16)) ∧ w = w' := by
  go_enter Tryz.func83, Tryz.ntmps83
  go_wp2_with fail
  go_loop [1, 2] (fun s i => ∃ k : Nat, k ≤ 16 ∧ i = .int .i64 (k : Int) ∧ s = .string (zb k)) (fun _ i => 16 - (intOf i).toNat)
  case atStart => exact ⟨0, by omega, rfl, rfl⟩
  case round =>
    obtain ⟨k, hk, rfl, rfl⟩ := hrel
    by_cases hlt : k < 16
    · have hz := zb_size k
      have H1 : Hid (zb k ++ ⟨#[0]⟩ = zb (k + 1)) := hidd (zb_succ k)
      have hz' : (zb k).size ≤ 16 := by omega
      have q1 : (k : Int) < 16 := by omega
      clear hz
      go_wp2_with fail
      go_round
      case rel => exact ⟨k + 1, by omega, by go_num, by rw [← H1.out]⟩
      case measure => simp [intOf]; omega
    · obtain rfl : k = 16 := by omega
      go_wp2_with fail
      go_ret
      exact ⟨rfl, rfl⟩

set_option maxRecDepth 100000 in
set_option maxHeartbeats 4000000 in
theorem rnew_any (n : Nat) (w : World) (h2 : n ≤ 512) : Calls Tryz.prog 55 #[.int .i64 (n : Int)] w fun e w' => (∃ q, e = .returned (.pointer (some ⟨q, 0, none⟩))) ∧ Below w.heap.size w w' := by
  obtain ⟨i0, hi, hz0, hz1, hz2⟩ := info_parts infoS
  have hhd := Blk.new w [.slice none 0 0, .slice none 0 0] 169
  have hB0 : Below w.heap.size w (w.alloc (.cells [.slice none 0 0, .slice none 0 0].toArray 169)) := (Below.refl _ w).alloc (Nat.le_refl _) _
  go_enter Tryz.func55, Tryz.ntmps55
  go_wp2_with fail
  obtain ⟨q, hq⟩ : ∃ q, q = w.heap.size := ⟨_, rfl⟩
  rw [← hq] at hhd hB0 ⊢
  have HQ := hidd hq
  clear hq
  go_loopw [4] (fun i wr => ∃ (k : Nat) (lv : Value), k ≤ n ∧ i = .int .i64 (k : Int) ∧ Blk wr q [lv, .slice none 0 0] 169 ∧ Ow (fun g => q < g) wr 9 1 lv k ((List.replicate k (zb 16)).map Value.string) ∧ Below q w wr) (fun i _ => n - (intOf i).toNat)
  case atStart => exact ⟨0, _, Nat.zero_le _, rfl, hhd, Ow.nil _ _ _ _, hB0⟩
  case round =>
    obtain ⟨k, lv, hk, rfl, hb, hown, hbl⟩ := hrel
    by_cases hlt : k < n
    · obtain ⟨la, lcap, rfl⟩ := hown.shape
      have hc0 := hb.cell (i := 0) (v := .slice la k lcap) rfl
      have hc1 : wr.drew.cell? ⟨q, 0, none⟩ = some (.slice la k lcap) := hc0
      have q1 : (k : Int) < (n : Int) := by omega
      have hbq := hb.lt
      have hs1 := Src.new (P := Tryz.prog) (size := 1) (tx := 49) Tryz.underlying49 wr.drew wr.heap.size rfl [.string (zb 16)] 9 rfl (by intro u hu; simp at hu; subst hu; rfl) 1
      have hrow := hown.blk
      have HB4 : Hid (∀ w4, (wr.drew.alloc (.cells [Value.string (zb 16)].toArray 9)).grownBy w4 (Value.slice la k lcap).ownBlock → Blk w4 q [.slice la k lcap, .slice none 0 0] 169) :=
        hidd (fun w4 hg => (hb.drew.alloc _).grown hg (fun e => by have := (hrow q e.symm).1; omega))
      have HN := hidd (List.replicate_succ' (n := k) (a := zb 16))
      go_wp2_with fail
      go_region_law (first
        | (refine step_append_ow rfl (.tmp 16) (.tmp 18) 49 49 rfl (fun g => q < g) (fun g hg => by simp at hg; omega) 9 i0 _ 1 16 Tryz.underlying49 hi hz0 hz1 hz2 rfl (by decide) _ _ _ (by simp [Act.eval]) (hown.drew.alloc _) _ _ _ (by simp [Act.eval]) hs1 (by unfold maxLen; omega) (by omega) ?_; intro v' w4 hown' hgrow; obtain ⟨a', cap', hv'⟩ := hown'.shape; subst hv'; have hb4 := HB4.out _ hgrow; have hc4 := hb4.cell (i := 0) (v := .slice la k lcap) rfl; have hf4 := hb4.frozen 0)
        | (go_simp; go_at_call 83; refine (rzeros_any _).mono ?_; rintro e w' ⟨rfl, rfl⟩))
      all_goals
        have hset := hb4.set 0 (.slice a' (k + 1) cap')
        have hown5 := hown'.set (a := ⟨q, 0, none⟩) (Nat.lt_irrefl q) (.slice a' (k + 1) cap')
        have hbl5 : Below q w (w4.setCell ⟨q, 0, none⟩ (.slice a' (k + 1) cap')) := (((hbl.drew).alloc (by simp; omega) _).grown hgrow (by simp; omega) (fun k' hk' => by have := (hrow k' hk').1; omega)).setCell (p := ⟨q, 0, none⟩) (Nat.le_refl _) _
        go_wp2_with fail
        go_roundw
        case rel => exact ⟨k + 1, _, hlt, by go_num, hset, by rw [HN.out, List.map_append]; exact hown5, hbl5⟩
        case measure => simp [intOf]; omega
    · obtain rfl : k = n := by omega
      go_wp2_with fail
      go_ret
      refine ⟨⟨q, rfl⟩, ?_⟩
      rw [← HQ.out]
      exact hbl
end Go.Proofs.YtoemahhpheobkaaGreatDoor
