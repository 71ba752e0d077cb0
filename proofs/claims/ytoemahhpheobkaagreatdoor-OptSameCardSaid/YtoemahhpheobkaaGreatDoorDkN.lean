/- The contract of disk.New, and what it calls. No condition but the bounds that the text asks. -/
import Derived.Test.YtoemahhpheobkaaGreatDoorDk3
import Derived.Test.YtoemahhpheobkaaGreatDoorShelf
import Derived.Laws.CopyOwn
namespace Go.Proofs.YtoemahhpheobkaaGreatDoor
open Go.RowKit Go.Shelf

theorem infoS : (Tryz.prog.info? 9).map (fun i => (i.zero, i.size, i.bytes)) = some (some (.string ⟨#[]⟩), 1, 16) := by kernel_rfl

theorem mul1 (n : Nat) (hn : n ≤ 512) (w : World) : Calls Tryz.prog 103 #[.int .u64 1, .int .u64 (n : Int)] w fun e w' => e = .returned (.tuple #[.int .u64 0, .int .u64 (n : Int)]) ∧ w = w' := by
  refine (Tryz.bits_Mul 1 n (by omega) (by omega) w).mono ?_
  rintro e w' ⟨rfl, rfl⟩
  have e1 : 1 * n / 18446744073709551616 = 0 := Nat.div_eq_of_lt (by omega)
  have e2 : 1 * n % 18446744073709551616 = n := by rw [Nat.mod_eq_of_lt (by omega)]; omega
  rw [e1, e2]
  exact ⟨rfl, rfl⟩

/-- c texts, then empty ones. -/
def rep (s : ByteArray) (c n : Nat) : List Value := List.replicate c (.string s) ++ List.replicate (n - c) (.string ⟨#[]⟩)
theorem rep_len (s : ByteArray) {c n : Nat} (h : c ≤ n) : (rep s c n).length = n := by simp [rep]; omega
theorem rep_splice (s : ByteArray) {c k n : Nat} (h : c + k ≤ n) : splice (rep s c n) c (List.replicate k (.string s)) = rep s (c + k) n := by
  unfold splice rep
  rw [List.length_replicate, List.take_left' (by simp), List.drop_append, List.drop_replicate, List.drop_replicate, List.length_replicate, ← List.append_assoc, List.replicate_append_replicate,
    show c - (c + k) = 0 by omega, show n - c - (c + k - c) = n - (c + k) by omega]
  simp
theorem rep_cell (s : ByteArray) {c n j : Nat} (h : j < c) : (rep s c n)[j]? = some (.string s) := by
  unfold rep
  rw [List.getElem?_append_left (by simpa using h)]
  simp [h]
theorem rep_full (s : ByteArray) (n : Nat) : rep s n n = (List.replicate n s).map Value.string := by simp [rep]

set_option maxRecDepth 100000 in
set_option maxHeartbeats 2000000 in
/-- slices.Repeat of one text. -/
theorem srepeat (s : ByteArray) (b n : Nat) (w : World) (hs : w.cell? ⟨b, 0, none⟩ = some (.string s)) (h1 : 1 ≤ n) (h2 : n ≤ 512) :
    Calls Tryz.prog 84 #[.slice (some ⟨b, 0, none⟩) 1 1, .int .i64 (n : Int)] w fun e w' => ∃ r, e = .returned (.slice (some ⟨r, 0, none⟩) n n) ∧ Blk w' r ((List.replicate n s).map Value.string) 9 ∧ w.heap.size ≤ r ∧ Below w.heap.size w w' := by
  obtain ⟨i0, hi, hz0, hz1, hz2⟩ := info_parts infoS
  have d1 : decide ((n : Int) < 0) = false := by simp
  have q1 : (0 : Int) ≤ (n : Int) := by omega
  have q2 : (n : Int) ≤ 512 := by omega
  go_enter Tryz.func84, Tryz.ntmps84
  go_wp2_with fail
  refine (mul1 n h2 w).mono ?_
  rintro e w' ⟨rfl, rfl⟩
  have hmk := run_makeSlice (P := Tryz.prog) w 49 9 i0 (.string ⟨#[]⟩) Tryz.underlying49 hi hz0 .i64 .i64 (n : Int) (n : Int) (by omega) (Int.le_refl _) (by rw [hz1]; simp; omega) (by rw [hz2]; omega) (by omega)
  rw [Int.toNat_natCast, hz1] at hmk
  have hcs : madeCells (Value.string ⟨#[]⟩).cells (n * 1) = (rep s 0 n).toArray := by
    apply Array.toList_inj.1
    rw [Nat.mul_one, show (Value.string ⟨#[]⟩).cells = #[Value.string ⟨#[]⟩] from rfl, toList_madeCells_one]
    simp [rep]
  rw [hcs] at hmk
  have hq1 : decide ((9223372036854775807 : Int) < (n : Int)) = false := by simp; omega
  have hl0 := rep_len s (c := 0) (n := n) (by omega)
  have hb0 := Blk.new w (rep s 0 n) 9
  have hs0 : (w.alloc (.cells (rep s 0 n).toArray 9)).cell? ⟨b, 0, none⟩ = some (.string s) := by
    rw [((Below.refl w.heap.size w).alloc (Nat.le_refl _) _).cell (p := ⟨b, 0, none⟩) (World.block_lt_of_cell? w _ hs)]; exact hs
  have hbl : Below w.heap.size w (w.alloc (.cells (rep s 0 n).toArray 9)) := (Below.refl w.heap.size w).alloc (Nat.le_refl _) _
  obtain ⟨R, hR⟩ : ∃ R, rep s 0 n = R := ⟨_, rfl⟩
  have HR := hidd hR
  rw [hR] at hmk hl0 hb0 hs0 hbl
  clear hcs hR
  have hsz1 : (Tryz.prog.info? 9).map (·.size) = some 1 := by kernel_rfl
  have hgz : w.heap.size ≤ w.heap.size := Nat.le_refl _
  generalize hW1 : w.alloc (.cells R.toArray 9) = W1 at *
  have HW1 := hidd hW1
  clear hW1
  generalize hg : w.heap.size = r at *
  have HG := hidd hg
  clear hg
  have hnmin : [Value.string s].length = Nat.min 1 n := by show 1 = min 1 n; omega
  have HBH : Hid (W1.heap[r]? = some (.cells R.toArray 9 (0, 0))) := hidd hb0
  go_wp2_with (with_reducible refine wpList_copy_splice rfl (.tmp 31) (.tmp 32) 49 49 rfl 9 Tryz.underlying49 hsz1 (some ⟨r, 0, none⟩) (some ⟨b, 0, none⟩) n n 1 1 rfl rfl r 0 R 9 HBH.out [.string s] hnmin ?c1 ?c2 ?c3 r w hbl hgz ?_)
  case c1 =>
    intro j v hj
    match j, hj with
    | 0, hj =>
      simp at hj; subst hj
      exact hs0
    | j + 1, hj => simp at hj
  case c2 => simp; omega
  case c3 => intro v hv; simp at hv; subst hv; rfl
  intro W2 hg2 hb2
  have hg3 : W2.heap[r]? = some (.cells (rep s 1 n).toArray 9 (0, 0)) := by
    have := hg2.out
    rw [← HR.out, show [Value.string s] = List.replicate 1 (.string s) from rfl, rep_splice s (by omega)] at this
    simpa using this
  have hg4 : Blk W2 r (rep s 1 n) 9 := hg3
  have HG4 := hidd hg4
  clear hg2 hg3 hmk hb0 hs0 hbl
  go_wp2_with fail
  go_loopw [8] (fun c wr => ∃ k : Nat, 1 ≤ k ∧ k ≤ n ∧ c = .int .i64 (k : Int) ∧ Blk wr r (rep s k n) 9 ∧ Below r w wr) (fun c _ => n - (intOf c).toNat)
  case atStart => exact ⟨1, Nat.le_refl _, h1, rfl, HG4.out, hb2⟩
  case round =>
    obtain ⟨k, hk1, hk, rfl, hbk, hbw⟩ := hrel
    by_cases hlt : k < n
    · obtain ⟨m, hm⟩ : ∃ m, min k (n - k) = m := ⟨_, rfl⟩
      have hmk : k + m ≤ n := by omega
      have hm1 : 1 ≤ m := by omega
      have hmin : (List.replicate m (Value.string s)).length = Nat.min k (n - k) := by rw [List.length_replicate]; exact hm.symm
      have hfit : k + (List.replicate m (Value.string s)).length ≤ (rep s k n).length := by rw [List.length_replicate, rep_len s hk]; omega
      have h1c : ∀ v ∈ List.replicate m (Value.string s), v.oneCell' = true := by intro v hv; rw [List.eq_of_mem_replicate hv]; rfl
      have HBH : Hid (wr.heap[r]? = some (.cells (rep s k n).toArray 9 (0, 0))) := hidd hbk
      have HSRC : Hid (∀ j v, (List.replicate m (Value.string s))[j]? = some v → wr.cell? ((⟨r, 0, none⟩ : Addr).add j) = some v) := by
        refine hidd fun j v hj => ?_
        obtain ⟨hj1, rfl⟩ := List.getElem?_eq_some_iff.1 hj
        have hjm : j < m := by simpa using hj1
        have ea : (⟨r, 0, none⟩ : Addr).add j = ⟨r, j, none⟩ := by unfold Addr.add; split <;> simp_all
        rw [ea, List.getElem_replicate]
        exact hbk.cell (rep_cell s (by omega))
      have HMIN := hidd hmin
      have HFIT := hidd hfit
      have H1C := hidd h1c
      have hlm : (List.replicate m (Value.string s)).length = m := List.length_replicate
      have HLM := hidd hlm
      have q3 : (k : Int) < (n : Int) := by omega
      have q4 : (0 : Int) ≤ (k : Int) := by omega
      have q5 : (k : Int) ≤ (n : Int) := by omega
      have hnk : ¬ n = k := by omega
      have q6 : (m : Int) ≤ 512 := by omega
      have q7 : (k : Int) ≤ 512 := by omega
      have hwr : IntKind.i64.wrap ((k : Int) + (m : Int)) = (k : Int) + (m : Int) := IntWalk.i64_in _ (by omega)
      clear hm hmin hfit h1c hbk hlm
      go_wp2_with fail
      go_region_law (refine step_copy_splice rfl (.tmp 41) (.tmp 44) 49 49 rfl 9 Tryz.underlying49 hsz1 (some ⟨r, k, none⟩) (some ⟨r, 0, none⟩) (n - k) (n - k) k n (by simp [Act.eval, Act.put]) (by simp [Act.eval, Act.put]) r k (rep s k n) 9 HBH.out (List.replicate m (.string s)) HMIN.out (fun _ => ⟨rfl, _, rfl, HSRC.out⟩) HFIT.out H1C.out r w hbw.drew (Nat.le_refl _) ?_; intro w4 hg4 hb4)
      all_goals
        simp only [Act.put, List.getElem_toArray, List.getElem_cons_succ, List.getElem_cons_zero, List.setIfInBounds_toArray, List.set_cons_succ, List.set_cons_zero]
        clear hwr
        go_wp2_with fail
        go_roundw
        case rel => exact ⟨k + m, by omega, hmk, by go_num, by have := hg4.out; rw [rep_splice s hmk] at this; exact this, hb4⟩
        case measure => simp [intOf]; omega
    · obtain rfl : k = n := by omega
      go_wp2_with fail
      go_ret
      refine ⟨r, rfl, by rw [← rep_full]; exact hbk, by rw [HG.out]; exact Nat.le_refl _, by rw [HG.out]; exact hbw⟩

/-- A block's zeros. -/
def zb (n : Nat) : ByteArray := ⟨(List.replicate n (0 : UInt8)).toArray⟩
theorem zb_size (n : Nat) : (zb n).size = n := by
  show ((List.replicate n (0 : UInt8)).toArray).size = n
  simp
theorem zb_succ (k : Nat) : zb k ++ ⟨#[0]⟩ = zb (k + 1) := by
  apply ByteArray.ext
  rw [ByteArray.data_append]
  unfold zb
  rw [List.replicate_succ']
  apply Array.toList_inj.1
  simp
theorem rep_zero (n : Nat) : Lib.repeatL [0] n = List.replicate n (0 : UInt8) := by
  induction n with
  | zero => rfl
  | succ n ih => rw [List.replicate_succ, Lib.repeatL, ih]; rfl

/-- What New gives. -/
def NewPost (n : Nat) (w : World) (e : Ending) (w' : World) : Prop :=
  ∃ p r, e = .returned (.tuple #[.pointer (some ⟨p, 0, none⟩), .nilIface]) ∧ DkAt w' p r (.slice none 0 0) (List.replicate n (zb 16)) [] ∧ w.heap.size ≤ p ∧ w.heap.size ≤ r ∧ Below w.heap.size w w'

set_option maxRecDepth 100000 in
theorem dnew_ok (n : Nat) (w : World) (h1 : 1 ≤ n) (h2 : n ≤ 512) : Calls Tryz.prog 56 #[.int .i64 (n : Int)] w (NewPost n w) := by
  have d1 : decide ((n : Int) < 1) = false := by simp; omega
  have d1' : decide (n < 1) = false := by simp; omega
  have d2 : decide ((512 : Int) < (n : Int)) = false := by simp; omega
  have d2' : decide (512 < n) = false := by simp; omega
  go_enter Tryz.func56, Tryz.ntmps56
  go_wp2_with fail
  refine (Tryz.strings_Repeat ⟨#[0]⟩ 16 w (by omega) (by show 1 * 16 ≤ _; omega)).mono ?_
  rintro e w1 ⟨rfl, hb1⟩
  rw [show (⟨#[0]⟩ : ByteArray).data.toList = [0] from rfl, rep_zero]
  have hz : (⟨(List.replicate 16 (0 : UInt8)).toArray⟩ : ByteArray) = zb 16 := rfl
  rw [hz]
  go_wp2_with fail
  refine (srepeat (zb 16) w1.heap.size n _ (by rw [World.cell?_alloc_at _ _ _ _ rfl]; rfl) h1 h2).mono ?_
  rintro e w2 ⟨r, rfl, hbr, hr, hb2⟩
  have hb12 : Below w.heap.size w w2 := (hb1.alloc hb1.size _).trans (hb2.mono (by have := hb1.size; simp; omega))
  have hr1 : w.heap.size ≤ r := by have := hb1.size; simp at hr; omega
  clear hb2 hr hb1 hz
  go_wp2_with fail
  go_ret2
  have hb3 := Blk.new w2 [.slice (some ⟨r, 0, none⟩) n n, .slice none 0 0] 164
  have hrl := hbr.lt
  refine ⟨w2.heap.size, r, rfl, ⟨?_, hbr.alloc _, Ow.nil _ _ _ _, by omega, by simp; omega, by simp; omega, by simp⟩, hb12.size, hr1, hb12.alloc hb12.size _⟩
  rw [List.length_replicate]
  exact hb3

theorem dnew_bad (E : Nat → Addr) (n : Int) (w : World) (h : n < 1 ∨ 512 < n) (hE : w.cell? ⟨4, 0, none⟩ = some (erv E 4)) :
    Calls Tryz.prog 56 #[.int .i64 n] w fun e w' => e = .returned (.tuple #[.pointer none, erv E 4]) ∧ Below w.heap.size w w' := by
  unfold erv at *
  by_cases h0 : n < 1
  · have d1 : decide (n < 1) = true := by simpa using h0
    clear h
    go_enter Tryz.func56, Tryz.ntmps56
    go_wp2_with fail
    go_quiet (fail)
    go_wp2
    go_ret2
    exact ⟨rfl, by first | exact Below.drewN _ _ _ | (repeat (first | exact Below.refl _ _ | apply Below.drew))⟩
  · have d1 : decide (n < 1) = false := by simpa using h0
    have d2 : decide (512 < n) = true := by simp; omega
    clear h
    go_enter Tryz.func56, Tryz.ntmps56
    go_wp2_with fail
    go_quiet (fail)
    go_wp2
    go_ret2
    exact ⟨rfl, by first | exact Below.drewN _ _ _ | (repeat (first | exact Below.refl _ _ | apply Below.drew))⟩

end Go.Proofs.YtoemahhpheobkaaGreatDoor
