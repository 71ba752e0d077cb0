/- The document's find, Bare and Fine, the statement's faulted; refs' fault as a number and a place. Condition: as stated. -/
import Derived.Test.YtlcabkhalockpaaGreatDoorQj
import Derived.Test.YtlcabkhalockpaaGreatDoorCode2
namespace Go.Proofs.YtlcabkhalockpaaGreatDoor
open Go.RowKit Go.Shelf Go.Maps

theorem results_tmp_cell {fn : Func} {p u : Tmp} {ty : TypeId} (h : fn.results = #[.tmp u, .cell p ty]) (tmps : Array Value) (P : Program) (w : World) :
    (results fn tmps).run P w = ((asAddr (tmps.getD p undef)).run P w).andThen fun a w₁ => ((loadVar ty a).run P w₁).andThen fun x w₂ => .ok (.tuple #[tmps.getD u undef, x]) w₂ := by
  simp only [results, h]
  simp [Sem.run_bind, Result.andThen]
theorem bare_fn (c : Int) (w : World) : Calls Tryz.prog 26 #[.int .i64 c] w fun e w' => e = .returned (.agg #[.int .i64 c, .int .i64 (-1)]) ∧ Below w.heap.size w w' := by
  go_enter Tryz.func26, Tryz.ntmps26
  go_wp2_with fail
  refine bodyPost_ret (v := .agg #[.int .i64 c, .int .i64 (-1)]) ?_ rfl ?_
  · rw [results_cell1 rfl]
    go_simp
  · exact ⟨rfl, (Below.refl _ _).alloc (Nat.le_refl _) _⟩
theorem fine_fn (w : World) : Calls Tryz.prog 28 #[] w fun e w' => e = .returned (.agg #[.int .i64 0, .int .i64 (-1)]) ∧ Below w.heap.size w w' := by
  go_enter Tryz.func28, Tryz.ntmps28
  go_wp2_with fail
  refine bodyPost_ret (v := .agg #[.int .i64 0, .int .i64 (-1)]) ?_ rfl ?_
  · rw [results_cell1 rfl]
    go_simp
  · exact ⟨rfl, (Below.refl _ _).alloc (Nat.le_refl _) _⟩
theorem faulted_true (v : Value) (c : Nat) (at_ at2 : Int) (w : World) (hc : Calls Tryz.prog 23 #[v] (w.alloc (.cells #[.int .i64 (c : Int), .int .i64 at_] 33)) fun e w' => e = .returned (.tuple #[.int .i64 (c : Int), .int .i64 at2]) ∧ Below (w.alloc (.cells #[.int .i64 (c : Int), .int .i64 at_] 33)).heap.size (w.alloc (.cells #[.int .i64 (c : Int), .int .i64 at_] 33)) w')
    (h : c = 0 ∨ at2 = at_) : Calls Tryz.prog 10 #[v, .agg #[.int .i64 (c : Int), .int .i64 at_]] w fun e w' => e = .returned (.bool true) ∧ Below w.heap.size w w' := by
  have hq := Blk.new w [.int .i64 (c : Int), .int .i64 at_] 33
  have hB := (Below.refl w.heap.size w).alloc (Nat.le_refl _) (.cells #[.int .i64 (c : Int), .int .i64 at_] 33)
  have HC := hidd hc
  have e1 : ((c : Int) == (c : Int)) = true := beq_self_eq_true _
  clear hc
  by_cases h0 : c = 0
  · subst h0
    clear h
    go_enter Tryz.func10, Tryz.ntmps10
    go_wp2_with fail
    refine HC.out.mono ?_
    rintro e w3 ⟨rfl, hb3⟩
    have hq3 := hq.below hb3 hq.lt
    have c0 := hq3.cell (i := 0) rfl
    have c1 := hq3.cell (i := 1) rfl
    have HB3 := hidd (hB.trans (hb3.mono hB.size))
    clear hq hq3 hb3 hB HC
    go_wp2_with fail
    go_ret
    exact ⟨rfl, HB3.out⟩
  · have h2 : at2 = at_ := h.resolve_left h0
    subst h2
    have e2 : ((c : Int) == 0) = false := by rw [beq_eq_false_iff_ne]; omega
    have e3 : (at2 == at2) = true := beq_self_eq_true _
    clear h h0
    go_enter Tryz.func10, Tryz.ntmps10
    go_wp2_with fail
    refine HC.out.mono ?_
    rintro e w3 ⟨rfl, hb3⟩
    have hq3 := hq.below hb3 hq.lt
    have c0 := hq3.cell (i := 0) rfl
    have c1 := hq3.cell (i := 1) rfl
    have HB3 := hidd (hB.trans (hb3.mono hB.size))
    clear hq hq3 hb3 hB HC
    go_wp2_with fail
    go_ret
    exact ⟨rfl, HB3.out⟩
theorem FaV.code {E : Nat → Addr} {B : Nat} {v : Value} {c : Nat} {at_ : Int} {W W' : World} (h : FaV E v c at_ W) (hc : c ≤ 10) (hb : Below W.heap.size W W') (hE : Env codeGs B W' E) (hh : Hnd W') :
    ∃ at2 : Int, (c = 0 ∨ at2 = at_) ∧ Calls Tryz.prog 23 #[v] W' fun e w' => e = .returned (.tuple #[.int .i64 (c : Int), .int .i64 at2]) ∧ Below W'.heap.size W' w' := by
  have hcd : ∀ c ≤ 10, Coded E (evc E c) c := fun c hc => by
    by_cases h0 : c = 0
    · subst h0; exact .inl ⟨rfl, rfl⟩
    · exact .inr ⟨c - 1, by omega, by omega, if_neg h0⟩
  rcases h with ⟨rfl, rfl⟩ | ⟨h0, rfl, rfl⟩ | ⟨h0, f, rfl, hbk⟩
  · exact ⟨-1, .inl rfl, code_any E B W' hE hh _ 0 (.inl ⟨rfl, rfl⟩)⟩
  · exact ⟨-1, .inr rfl, code_any E B W' hE hh _ c (hcd c hc)⟩
  · refine ⟨at_, .inr rfl, ?_⟩
    have hb' := hbk.below hb hbk.lt
    have := code_fault E B W' hE hh (c - 1) (by omega) f at_ (hb'.cell (i := 0) rfl) (by rw [hb'.cell (i := 1) rfl]; unfold evc; rw [if_neg h0])
    rw [show ((c - 1 : Nat) : Int) + 1 = (c : Int) by omega] at this
    exact this
/-- An error value, and the fault that the document names: the same. -/
theorem fav_true {E : Nat → Addr} {B : Nat} {v : Value} {c : Nat} {at_ : Int} {W W' : World} (h : FaV E v c at_ W) (hc : c ≤ 10) (hb : Below W.heap.size W W') (hE : Env codeGs B W' E) (hh : Hnd W') :
    Calls Tryz.prog 10 #[v, .agg #[.int .i64 (c : Int), .int .i64 at_]] W' fun e w' => e = .returned (.bool true) ∧ Below W'.heap.size W' w' := by
  have hA : Below W'.heap.size W' (W'.alloc (.cells #[.int .i64 (c : Int), .int .i64 at_] 33)) := (Below.refl _ _).alloc (Nat.le_refl _) _
  obtain ⟨at2, h1, h2⟩ := h.code hc (below_step hb hA) (hE.ob hA) (hh.below hA (Nat.le_refl _))
  exact faulted_true v c at_ at2 W' h2 h1
theorem packE_le (a : List ByteArray) (p : Pn) : packF a p ≤ 10 := by
  unfold packF packE
  repeat' split
  all_goals omega
theorem packsAt_le : ∀ (l : List Pn) (i : Nat) (a : List ByteArray), (packsAt i a l).1 ≤ 10
  | [], _, _ => by simp [packsAt]
  | p :: r, i, a => by
    rw [packsAt]
    split
    · exact packsAt_le r _ _
    · exact packE_le a p
theorem packsE_le (l : List Pn) : (packsE l).1 ≤ 10 := by
  unfold packsE
  split
  · decide
  · exact packsAt_le _ _ _
theorem closE_le (L : List Pv) (n : List ByteArray) : (closE L n).1 ≤ 10 := by
  unfold closE
  split
  · split <;> decide
  · exact packsE_le _
/-- What find says. -/
def FiP (L : List Pv) (s : ByteArray) (w : World) (e : Ending) (w' : World) : Prop := ∃ i : Int, e = .returned (.int .i64 i) ∧ Below w.heap.size w w' ∧ (s ∈ nmL L → 0 ≤ i) ∧ (s ∉ nmL L → i < 0)
set_option maxHeartbeats 4000000 in
theorem find_any (L : List Pv) (v : Value) (s : ByteArray) (w : World) (h : PkI L v w) :
    Calls Tryz.prog 33 #[v, .string s] w (FiP L s w) := by
  obtain ⟨a, cap, rfl⟩ := h.shape
  have hm := h.1.le
  go_enter Tryz.func33, Tryz.ntmps33
  go_wp2_with fail
  go_loopw [5] (fun i wr => ∃ k : Nat, k ≤ L.length ∧ i = .int .i64 k ∧ s ∉ nmL (L.take k) ∧ Below w.heap.size w wr) (fun i _ => L.length - (intOf i).toNat)
  case atStart => exact ⟨0, Nat.zero_le _, rfl, by simp [nmL], Below.refl _ _⟩
  case round =>
    obtain ⟨k, hk, rfl, hno, hbe⟩ := hrel
    by_cases hlt : k < L.length
    · obtain ⟨b1, o1, rfl, hb1, c1, -⟩ := (h.ob hbe).at hlt
      have p1 : (0 : Int) ≤ (k : Int) := by omega
      have p2 : (k : Int) < (L.length : Int) := by omega
      have hst := nmL_succ L hlt
      have hmem : L[k].name ∈ nmL L := List.mem_map.2 ⟨L[k], List.getElem_mem hlt, rfl⟩
      generalize L[k].name = y at *
      have t1 := txt_beq y s
      by_cases hx : y = s
      · have HR : Hid (FiP L s w (.returned (.int .i64 (k : Int))) wr) := hidd ⟨_, rfl, hbe, fun _ => p1, fun q => absurd (hx ▸ hmem) q⟩
        rw [decide_eq_true hx] at t1
        clear hno hst hmem h
        go_wp2_with fail
        go_ret
        exact HR.out
      · rw [decide_eq_false hx] at t1
        have HST : Hid (s ∉ nmL (L.take (k + 1))) := hidd (by rw [hst, List.mem_append, List.mem_singleton]; rintro (q | q); exact hno q; exact hx q.symm)
        clear hno hst hmem h hx
        go_wp2_with fail
        go_roundw
        case rel => exact ⟨k + 1, hlt, by go_num, HST.out, hbe⟩
        case measure => simp [intOf]; omega
    · have hkl : k = L.length := by omega
      subst hkl
      rw [List.take_of_length_le (Nat.le_refl _)] at hno
      have HR : Hid (FiP L s w (.returned (.int .i64 (-1))) wr) := hidd ⟨_, rfl, hbe, fun q => absurd q hno, fun _ => by omega⟩
      clear hno h
      go_wp2_with fail
      go_ret
      exact HR.out
end Go.Proofs.YtlcabkhalockpaaGreatDoor
