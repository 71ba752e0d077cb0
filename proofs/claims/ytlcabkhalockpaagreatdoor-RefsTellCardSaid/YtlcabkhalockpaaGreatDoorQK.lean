/- What the cards of the statements on packs share: packs and texts as arguments, the listed variables, the witness's world. No condition. -/
import Derived.Test.YtlcabkhalockpaaGreatDoorTrX
import Derived.Test.YtlcabkhalockpaaGreatDoorQ3
import Derived.Test.YtlcabkhalockpaaGreatDoorFrame
import Derived.Test.YtlcabkhalockpaaGreatDoorHs
import Derived.Test.YtlcabkhalockpaaGreatDoorTie
import Derived.Test.YtlcabkhalockpaaGreatDoorCards
import Derived.Deep.Strs
import Derived.SevenTiedAt
import Derived.LaidSub
import Derived.Lay
import Derived.Lib.LaidIn
namespace Go.Proofs.YtlcabkhalockpaaGreatDoor
open Go.ChangeShapes Go.WideShapes Go.ChangeAt Go.RowKit Go.Deep Go.Joins

section
variable {H : Type} {enc : TypeId × Value → H} {W : World} {base : Nat} {spare : Nat → Bool} {held : Bool}
theorem str_sz {fuel : Nat} {c : Value} {x : DataW H × List MemPlace} (h : DataW.trod enc Tryz.prog W base spare held fuel 9 [c] = some x) (hw : ∀ n ∈ x.1.weights Tryz.prog 9, n ≤ reachBytes) : ∃ s : ByteArray, c = .string s ∧ Sz s := by
  obtain ⟨s, e, hx, -⟩ := DataW.trod_string Tryz.underlying9 h
  simp only [List.cons.injEq, and_true] at e
  subst e
  exact ⟨s, rfl, str_reach (d := x.1) (p := x.2) ⟨fuel, h⟩ hw⟩
set_option maxRecDepth 100000 in
theorem txi_of {fuel : Nat} {c3 : Value} {x : DataW H × List MemPlace} (g3 : DataW.trod enc Tryz.prog W base spare held fuel 23 [c3] = some x) (hw3 : ∀ n ∈ x.1.weights Tryz.prog 23, n ≤ reachBytes) :
    ∃ ls : List ByteArray, TxI ls c3 W := by
  have hsh : c3 = .slice none 0 0 ∨ ∃ ad len cap, c3 = .slice (some ad) len cap := by
    rcases open_slice Tryz.underlying23 g3 with ⟨hcs, -⟩ | ⟨ad, len, cap, _, _, _, _, hcs, _⟩
    · exact .inl (by simpa using hcs)
    · exact .inr ⟨ad, len, cap, by simpa using hcs⟩
  rcases hsh with rfl | ⟨ad, len, cap, rfl⟩
  · exact ⟨[], Sl.nil _ 1, fun c hc => by cases hc⟩
  · obtain ⟨hlc, hcm, D, Pl, r, hy3, hel⟩ := elems_data (c := 1) Tryz.underlying23 (by kernel_rfl) (by decide) g3
    obtain ⟨L, hL, hp⟩ := list_of_lt (p := fun i (q : ByteArray) => ∃ b off, ad = ⟨b, off, none⟩ ∧ b < W.heap.size ∧ W.cell? ⟨b, off + i, none⟩ = some (.string q) ∧ Sz q) len (fun i hi => by
      obtain ⟨b, off, n', cs', e, hb, hcl, hcell, ht⟩ := hel i hi
      have hwi : ∀ n ∈ (D i).weights Tryz.prog 9, n ≤ reachBytes := fun n hn => hw3 n (by
        rw [hy3]
        simp only [DataW.weights, Tryz.underlying23]
        exact List.mem_cons_of_mem _ (List.mem_append_left _ (weights_all (List.mem_map.2 ⟨i, List.mem_range.2 hi, rfl⟩) n hn)))
      match cs', hcl with
      | [c0], _ =>
        obtain ⟨s0, rfl, hz⟩ := str_sz ht hwi
        have := hcell 0 (by simp)
        exact ⟨s0, b, off, e, hb, by simpa using this, hz⟩)
    refine ⟨L, ⟨some ad, cap, by rw [hL], by rw [tcells_len]; omega, by omega, hcm, ?_⟩, ?_⟩
    · by_cases h0 : len = 0
      · exact .inl (by omega)
      · right
        obtain ⟨b, off, e, hb, -⟩ := hp 0 (by omega)
        subst e
        refine ⟨b, off, rfl, hb, fun j hj => ?_⟩
        rw [tcells_len] at hj
        obtain ⟨b', off', e', -, hcj, -⟩ := hp j hj
        simp only [Addr.mk.injEq] at e'
        obtain ⟨rfl, rfl, -⟩ := e'
        rw [hcj]
        simp [tcells]
    · intro y hy
      obtain ⟨i, hi, rfl⟩ := List.getElem_of_mem hy
      obtain ⟨_, _, _, _, _, h1⟩ := hp i hi
      exact h1
theorem txi_arg {a : Option Addr} {len cap : Nat} {d : DataW H} {p : List MemPlace} (h : DataW.Trod enc Tryz.prog W base spare held 23 (.slice a len cap) d p) (hw : ∀ n ∈ d.weights Tryz.prog 23, n ≤ reachBytes) : ∃ ls : List ByteArray, TxI ls (.slice a len cap) W := by
  obtain ⟨m, hm⟩ := h
  exact txi_of (c3 := .slice a len cap) (x := (d, p)) hm hw
theorem list6 {α : Type} : ∀ {l : List α}, l.length = 6 → ∃ a b c d e f, l = [a, b, c, d, e, f]
  | [a, b, c, d, e, f], _ => ⟨a, b, c, d, e, f, rfl⟩
set_option maxRecDepth 100000 in
theorem packs_of {fuel : Nat} {c3 : Value} {x : DataW H × List MemPlace} (g3 : DataW.trod enc Tryz.prog W base spare held fuel 22 [c3] = some x) (hw3 : ∀ n ∈ x.1.weights Tryz.prog 22, n ≤ reachBytes) :
    ∃ ls : List Pv, PkI ls c3 W ∧ ∀ p ∈ ls, p.tn ≤ maxLen := by
  have k1 : Tryz.prog.cellsOf 9 = 1 := by kernel_rfl
  have k2 : Tryz.prog.cellsOf 23 = 1 := by kernel_rfl
  have k4 : Tryz.prog.cellsOf 47 = 4 := by kernel_rfl
  have k6 : Tryz.prog.cellsOf 49 = 6 := by kernel_rfl
  have hsh : c3 = .slice none 0 0 ∨ ∃ ad len cap, c3 = .slice (some ad) len cap := by
    rcases open_slice Tryz.underlying22 g3 with ⟨hcs, -⟩ | ⟨ad, len, cap, _, _, _, _, hcs, _⟩
    · exact .inl (by simpa using hcs)
    · exact .inr ⟨ad, len, cap, by simpa using hcs⟩
  rcases hsh with rfl | ⟨ad, len, cap, rfl⟩
  · exact ⟨[], ⟨Sl.nil _ 6, fun c hc => by cases hc⟩, fun c hc => by cases hc⟩
  · obtain ⟨hlc, hcm, D, Pl, r, hy3, hel⟩ := elems_data (c := 6) Tryz.underlying22 k6 (by decide) g3
    obtain ⟨L, hL, hp⟩ := list_of_lt (p := fun i (q : Pv) => ∃ b off, ad = ⟨b, off, none⟩ ∧ b < W.heap.size ∧ (∀ j (hj : j < 6), W.cell? ⟨b, off + i * 6 + j, none⟩ = (pkcell q)[j]?) ∧ q.Ok W ∧ q.tn ≤ maxLen) len (fun i hi => by
      obtain ⟨b, off, n', cs', e, hb, hcl, hcell, ht⟩ := hel i hi
      obtain ⟨z0, z1, z2, n2, hz, -, q0, q1, q2⟩ := trod_struct3 Tryz.underlying49 ht
      have hwi : ∀ n ∈ (D i).weights Tryz.prog 49, n ≤ reachBytes := fun n hn => hw3 n (by
        rw [hy3]
        simp only [DataW.weights, Tryz.underlying22]
        exact List.mem_cons_of_mem _ (List.mem_append_left _ (weights_all (List.mem_map.2 ⟨i, List.mem_range.2 hi, rfl⟩) n hn)))
      have hDi : D i = .agg [z0.1, z1.1, z2.1] := congrArg Prod.fst hz
      rw [hDi] at hwi
      simp only [DataW.weights, Tryz.underlying49] at hwi
      simp only [List.map_cons, List.map_nil, DataW.weightsEach, List.mem_append] at hwi
      obtain ⟨d0, d1, d2, d3, d4, d5, rfl⟩ := list6 hcl
      have r0 : DataW.trod enc Tryz.prog W base spare held n2 9 (([d0, d1, d2, d3, d4, d5].drop 0).take (Tryz.prog.cellsOf 9)) = some z0 := q0
      have r1 : DataW.trod enc Tryz.prog W base spare held n2 23 (([d0, d1, d2, d3, d4, d5].drop 1).take (Tryz.prog.cellsOf 23)) = some z1 := q1
      have r2 : DataW.trod enc Tryz.prog W base spare held n2 47 (([d0, d1, d2, d3, d4, d5].drop 2).take (Tryz.prog.cellsOf 47)) = some z2 := q2
      rw [k1] at r0
      rw [k2] at r1
      rw [k4] at r2
      replace r0 : DataW.trod enc Tryz.prog W base spare held n2 9 [d0] = some z0 := r0
      replace r1 : DataW.trod enc Tryz.prog W base spare held n2 23 [d1] = some z1 := r1
      replace r2 : DataW.trod enc Tryz.prog W base spare held n2 47 [d2, d3, d4, d5] = some z2 := r2
      obtain ⟨s0, rfl, hz0⟩ := str_sz r0 (fun n hn => hwi n (.inl hn))
      obtain ⟨rs, hrs⟩ := txi_of r1 (fun n hn => hwi n (.inr (.inl hn)))
      obtain ⟨t, ht', hok⟩ := node_of _ (Nat.le_refl _) r2 (fun n hn => hwi n (.inr (.inr (.inl hn))))
      obtain ⟨ra, rc, rfl⟩ := hrs.shape
      obtain ⟨ta, tc, htv⟩ := hok.shape
      refine ⟨⟨s0, ra, rc, rs, t.kind, t.data, t.exec, ta, t.kids.length, tc⟩, b, off, e, hb, fun j hj => ?_, ⟨hrs.1, hz0, hrs.2⟩, hok.le⟩
      have e6 : pkcell ⟨s0, ra, rc, rs, t.kind, t.data, t.exec, ta, t.kids.length, tc⟩ = [.string s0, .slice ra rs.length rc, d2, d3, d4, d5] := by
        unfold pkcell
        rw [ht']
        unfold ncells
        rw [htv]
        rfl
      rw [e6, hcell j (by simpa using hj), List.getElem?_eq_getElem (by simpa using hj)])
    refine ⟨L, ⟨⟨some ad, cap, by rw [hL], by rw [pkcells_len], by omega, hcm, ?_⟩, ?_⟩, ?_⟩
    · by_cases h0 : len = 0
      · exact .inl (by omega)
      · right
        obtain ⟨b, off, rfl, hb, -⟩ := hp 0 (by omega)
        refine ⟨b, off, rfl, hb, fun j hj => ?_⟩
        have hlk := pkcells_len L
        have hi6 : j / 6 < L.length := by omega
        obtain ⟨b', off', e, -, hcj, -⟩ := hp (j / 6) hi6
        simp only [Addr.mk.injEq] at e
        obtain ⟨rfl, rfl, -⟩ := e
        have hc := hcj (j % 6) (by omega)
        rw [Nat.add_assoc, show j / 6 * 6 + j % 6 = j by omega] at hc
        rw [hc, ← List.getElem?_eq_getElem hj]
        obtain ⟨q0, q1, q2, q3, q4, q5⟩ := pkcells_at L (j / 6) hi6
        have hj6 : j % 6 = 0 ∨ j % 6 = 1 ∨ j % 6 = 2 ∨ j % 6 = 3 ∨ j % 6 = 4 ∨ j % 6 = 5 := by omega
        rcases hj6 with h5 | h5 | h5 | h5 | h5 | h5
        · rw [h5, show (pkcells L)[j]? = (pkcells L)[j / 6 * 6]? by rw [show j / 6 * 6 = j by omega], q0]; rfl
        · rw [h5, show (pkcells L)[j]? = (pkcells L)[j / 6 * 6 + 1]? by rw [show j / 6 * 6 + 1 = j by omega], q1]; rfl
        · rw [h5, show (pkcells L)[j]? = (pkcells L)[j / 6 * 6 + 2]? by rw [show j / 6 * 6 + 2 = j by omega], q2]; rfl
        · rw [h5, show (pkcells L)[j]? = (pkcells L)[j / 6 * 6 + 3]? by rw [show j / 6 * 6 + 3 = j by omega], q3]; rfl
        · rw [h5, show (pkcells L)[j]? = (pkcells L)[j / 6 * 6 + 4]? by rw [show j / 6 * 6 + 4 = j by omega], q4]; rfl
        · rw [h5, show (pkcells L)[j]? = (pkcells L)[j / 6 * 6 + 5]? by rw [show j / 6 * 6 + 5 = j by omega], q5]; rfl
    · intro y hy
      obtain ⟨i, hi, rfl⟩ := List.getElem_of_mem hy
      obtain ⟨_, _, _, _, _, h1, _⟩ := hp i hi
      exact h1
    · intro y hy
      obtain ⟨i, hi, rfl⟩ := List.getElem_of_mem hy
      obtain ⟨_, _, _, _, _, _, h1⟩ := hp i hi
      exact h1
theorem packs_arg {a : Option Addr} {len cap : Nat} {d : DataW H} {p : List MemPlace} (h : DataW.Trod enc Tryz.prog W base spare held 22 (.slice a len cap) d p) (hw : ∀ n ∈ d.weights Tryz.prog 22, n ≤ reachBytes) : ∃ ls : List Pv, PkI ls (.slice a len cap) W ∧ ∀ p ∈ ls, p.tn ≤ maxLen := by
  obtain ⟨m, hm⟩ := h
  exact packs_of (c3 := .slice a len cap) (x := (d, p)) hm hw
end

/-- The witness's world: the door's, and the pinned table laid behind it. -/
noncomputable def tsW (os : Os) : World := (World.doorLaid Tryz.prog 400 os).layVars Tryz.prog [("unicode/utf8.first", Rows.laid_unicode_utf8_first)]
theorem tsW_os (os : Os) : (tsW os).os = os := (World.layVars_os _ _ _).trans rfl
/-- The blocks of the others. -/
noncomputable def tsB (os : Os) : List Nat := (List.range (World.doorLaid Tryz.prog 400 os).heap.size).filter (· != 14)

/-- The listed variables of the trees' statements. -/
def trLaid : List (String × DataW Unit) := ("unicode/utf8.acceptRanges", Rows.laid_unicode_utf8_acceptRanges) :: ("errors.errorType", hndD) :: ((sentL.map fun x => (x.1, sentD x.2.2)) ++ [("unicode/utf8.first", Rows.laid_unicode_utf8_first)])
set_option maxRecDepth 100000 in
theorem env_of_tr {W : World} (h : laidMetH Tryz.prog trLaid W) : Hnd W ∧ ∃ E, Env codeGs W.heap.size W E := by
  have h' : laidMet Tryz.prog (("unicode/utf8.acceptRanges", Rows.laid_unicode_utf8_acceptRanges) :: ((sentL.map fun x => (x.1, sentD x.2.2)) ++ [("unicode/utf8.first", Rows.laid_unicode_utf8_first)])) W ∧ handlesMet Tryz.prog [("errors.errorType", hndD)] W := h
  have h2 := h'.1.filter (fun x => (sentL.map (·.1)).contains x.1)
  have e2 : (("unicode/utf8.acceptRanges", Rows.laid_unicode_utf8_acceptRanges) :: ((sentL.map fun x => (x.1, sentD x.2.2)) ++ [("unicode/utf8.first", Rows.laid_unicode_utf8_first)])).filter (fun x => (sentL.map (·.1)).contains x.1) = sentL.map fun x => (x.1, sentD x.2.2) := by kernel_rfl
  rw [e2] at h2
  exact ⟨hnd_of_met h'.2, env_of_laid sentL sentL_ok (by decide) h2⟩
set_option maxRecDepth 100000 in
theorem ts_met (os : Os) (args : Array Value) : laidMet Tryz.prog (trLaid.filter fun x => x.2.handleName?.isNone) ((tsW os).forCall (fun _ _ => 0) ⟨#[], args, []⟩).memory :=
  laidMet_layVars (w0 := World.doorLaid Tryz.prog 400 os) ["unicode/utf8.first"] (tsB os) rfl (by kernel_rfl) (by kernel_rfl) (LaidIn.of_run (tsB os) 8 (by kernel_rfl) (by kernel_rfl) (by kernel_rfl) (by kernel_rfl))
set_option maxRecDepth 100000 in
theorem ts_door (os : Os) (args : Array Value) : laidMetH Tryz.prog trLaid ((tsW os).forCall (fun _ _ => 0) ⟨#[], args, []⟩).memory :=
  laidMetH_of_parts3 (fuel := 8) (ts_met os args) (by kernel_rfl) (by kernel_rfl)
end Go.Proofs.YtlcabkhalockpaaGreatDoor
