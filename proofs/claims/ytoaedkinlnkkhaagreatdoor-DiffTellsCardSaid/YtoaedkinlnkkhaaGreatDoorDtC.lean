/- An argument that is a slice of changes. Condition: it reads as data, each of its texts within reach. · stillroomlaw1.DiffTells answers true for every input: the tied card. No condition of its own. -/
import Derived.Test.YtoaedkinlnkkhaaGreatDoorTrX
import Derived.Test.YtoaedkinlnkkhaaGreatDoorDfN
import Derived.Deep.Strs
import Derived.Test.YtoaedkinlnkkhaaGreatDoorDt
import Derived.Test.YtoaedkinlnkkhaaGreatDoorTyK
namespace Go.Proofs.YtoaedkinlnkkhaaGreatDoor
open Go.ChangeShapes Go.WideShapes Go.ChangeAt Go.RowKit Go.Deep Go.Joins

section
variable {H : Type} {enc : TypeId × Value → H} {W : World} {base : Nat} {spare : Nat → Bool} {held : Bool}
theorem list6 {α : Type} : ∀ {l : List α}, l.length = 6 → ∃ a b c d e f, l = [a, b, c, d, e, f]
  | [a, b, c, d, e, f], _ => ⟨a, b, c, d, e, f, rfl⟩
set_option maxRecDepth 100000 in
theorem changes_of {fuel : Nat} {c3 : Value} {x : DataW H × List MemPlace} (g3 : DataW.trod enc Tryz.prog W base spare held fuel 25 [c3] = some x) (hw3 : ∀ n ∈ x.1.weights Tryz.prog 25, n ≤ reachBytes) :
    ∃ ls : List (Ch Value), ChI ls c3 W := by
  have k1 : Tryz.prog.cellsOf 9 = 1 := by kernel_rfl
  have k4 : Tryz.prog.cellsOf 24 = 4 := by kernel_rfl
  have k6 : Tryz.prog.cellsOf 60 = 6 := by kernel_rfl
  have hsh : c3 = .slice none 0 0 ∨ ∃ ad len cap, c3 = .slice (some ad) len cap := by
    rcases open_slice Tryz.underlying25 g3 with ⟨hcs, -⟩ | ⟨ad, len, cap, _, _, _, _, hcs, _⟩
    · exact .inl (by simpa using hcs)
    · exact .inr ⟨ad, len, cap, by simpa using hcs⟩
  rcases hsh with rfl | ⟨ad, len, cap, rfl⟩
  · exact ⟨[], Sl.nil _ 6, fun c hc => by cases hc⟩
  · obtain ⟨hlc, hcm, D, Pl, r, hy3, hel⟩ := elems_data (c := 6) Tryz.underlying25 k6 (by decide) g3
    obtain ⟨L, hL, hp⟩ := list_of_lt (p := fun i (q : Ch Value) => ∃ b off, ad = ⟨b, off, none⟩ ∧ b < W.heap.size ∧ (∀ j (hj : j < 6), W.cell? ⟨b, off + i * 6 + j, none⟩ = (chcell q)[j]?) ∧ q.n.Ok W) len (fun i hi => by
      obtain ⟨b, off, n', cs', e, hb, hcl, hcell, ht⟩ := hel i hi
      obtain ⟨z0, z1, z2, n2, hz, -, q0, q1, q2⟩ := trod_struct3 Tryz.underlying60 ht
      have hwi : ∀ n ∈ (D i).weights Tryz.prog 60, n ≤ reachBytes := fun n hn => hw3 n (by
        rw [hy3]
        simp only [DataW.weights, Tryz.underlying25]
        exact List.mem_cons_of_mem _ (List.mem_append_left _ (weights_all (List.mem_map.2 ⟨i, List.mem_range.2 hi, rfl⟩) n hn)))
      have hDi : D i = .agg [z0.1, z1.1, z2.1] := congrArg Prod.fst hz
      obtain ⟨d0, d1, d2, d3, d4, d5, rfl⟩ := list6 hcl
      have r0 : DataW.trod enc Tryz.prog W base spare held n2 9 (([d0, d1, d2, d3, d4, d5].drop 0).take (Tryz.prog.cellsOf 9)) = some z0 := q0
      have r1 : DataW.trod enc Tryz.prog W base spare held n2 9 (([d0, d1, d2, d3, d4, d5].drop 1).take (Tryz.prog.cellsOf 9)) = some z1 := q1
      have r2 : DataW.trod enc Tryz.prog W base spare held n2 24 (([d0, d1, d2, d3, d4, d5].drop 2).take (Tryz.prog.cellsOf 24)) = some z2 := q2
      rw [k1] at r0 r1
      rw [k4] at r2
      replace r0 : DataW.trod enc Tryz.prog W base spare held n2 9 [d0] = some z0 := r0
      replace r1 : DataW.trod enc Tryz.prog W base spare held n2 9 [d1] = some z1 := r1
      replace r2 : DataW.trod enc Tryz.prog W base spare held n2 24 [d2, d3, d4, d5] = some z2 := r2
      obtain ⟨s0, e0, -⟩ := DataW.trod_string Tryz.underlying9 r0
      obtain ⟨s1, e1, -⟩ := DataW.trod_string Tryz.underlying9 r1
      simp only [List.cons.injEq, and_true] at e0 e1
      subst e0 e1
      obtain ⟨t, ht', hok⟩ := node_of _ (Nat.le_refl _) r2 (fun n hn => hwi n (by
        rw [hDi]
        simp only [DataW.weights, Tryz.underlying60]
        simp only [List.map_cons, List.map_nil, DataW.weightsEach, List.mem_append]
        exact .inr (.inr (.inl hn))))
      refine ⟨⟨s0, s1, t⟩, b, off, e, hb, fun j hj => ?_, hok⟩
      have e6 : chcell ⟨s0, s1, t⟩ = [.string s0, .string s1, d2, d3, d4, d5] := by unfold chcell; rw [← ht']
      rw [e6, hcell j (by simpa using hj), List.getElem?_eq_getElem (by simpa using hj)])
    refine ⟨L, ⟨some ad, cap, by rw [hL], by rw [chcells_len], by omega, hcm, ?_⟩, ?_⟩
    · by_cases h0 : len = 0
      · exact .inl (by omega)
      · right
        obtain ⟨b, off, rfl, hb, -⟩ := hp 0 (by omega)
        refine ⟨b, off, rfl, hb, fun j hj => ?_⟩
        have hlk := chcells_len L
        have hi6 : j / 6 < L.length := by omega
        obtain ⟨b', off', e, -, hcj, -⟩ := hp (j / 6) hi6
        simp only [Addr.mk.injEq] at e
        obtain ⟨rfl, rfl, -⟩ := e
        have hc := hcj (j % 6) (by omega)
        rw [Nat.add_assoc, show j / 6 * 6 + j % 6 = j by omega] at hc
        rw [hc, ← List.getElem?_eq_getElem hj]
        obtain ⟨q0, q1, q2, q3, q4, q5⟩ := chcells_at L (j / 6) hi6
        have hj6 : j % 6 = 0 ∨ j % 6 = 1 ∨ j % 6 = 2 ∨ j % 6 = 3 ∨ j % 6 = 4 ∨ j % 6 = 5 := by omega
        rcases hj6 with h5 | h5 | h5 | h5 | h5 | h5
        · rw [h5, show (chcells L)[j]? = (chcells L)[j / 6 * 6]? by rw [show j / 6 * 6 = j by omega], q0]; rfl
        · rw [h5, show (chcells L)[j]? = (chcells L)[j / 6 * 6 + 1]? by rw [show j / 6 * 6 + 1 = j by omega], q1]; rfl
        · rw [h5, show (chcells L)[j]? = (chcells L)[j / 6 * 6 + 2]? by rw [show j / 6 * 6 + 2 = j by omega], q2]; rfl
        · rw [h5, show (chcells L)[j]? = (chcells L)[j / 6 * 6 + 3]? by rw [show j / 6 * 6 + 3 = j by omega], q3]; rfl
        · rw [h5, show (chcells L)[j]? = (chcells L)[j / 6 * 6 + 4]? by rw [show j / 6 * 6 + 4 = j by omega], q4]; rfl
        · rw [h5, show (chcells L)[j]? = (chcells L)[j / 6 * 6 + 5]? by rw [show j / 6 * 6 + 5 = j by omega], q5]; rfl
    · intro y hy
      obtain ⟨i, hi, rfl⟩ := List.getElem_of_mem hy
      obtain ⟨_, _, _, _, _, h1⟩ := hp i hi
      exact h1
theorem changes_arg {a : Option Addr} {len cap : Nat} {d : DataW H} {p : List MemPlace} (h : DataW.Trod enc Tryz.prog W base spare held 25 (.slice a len cap) d p) (hw : ∀ n ∈ d.weights Tryz.prog 25, n ≤ reachBytes) : ∃ ls : List (Ch Value), ChI ls (.slice a len cap) W := by
  obtain ⟨m, hm⟩ := h
  exact changes_of (c3 := .slice a len cap) (x := (d, p)) hm hw
end
end Go.Proofs.YtoaedkinlnkkhaaGreatDoor

namespace Go.Proofs.YtoaedkinlnkkhaaGreatDoor
open Go.ChangeShapes Go.WideShapes Go.ChangeAt Go.RowKit Go.Deep

set_option maxRecDepth 100000 in
theorem diffTells_lifted (os : Os) (started : os.Started) (H : Type) (enc : TypeId × Value → H) :
    ReturnsInHanded {} Tryz.checked os 3 .any (fun w args => (Rows.diffTellsSpec.pre enc Tryz.prog Tryz.f3 [] false w args ∧ laidMetH Tryz.prog trLaid w) ∧ sizedMet enc Tryz.prog Tryz.f3 (OpenSpec.ofChange Rows.diffTellsSpec) false w args)
      (Rows.diffTellsSpec.post enc Tryz.prog Tryz.f3 false true false false) := by
  refine handed_all (C := Tryz.checked) (X := fun w _ => laidMetH Tryz.prog trLaid w) (fun _ _ _ hh h => h.of_heap hh) ownK started (by kernel_rfl) Tryz.func3
    (ChangeSpec.witness_shaped (enc := enc) (C := Tryz.checked) (os := os) (X := fun w _ => laidMetH Tryz.prog trLaid w) false (tsW os) #[.agg #[.string ⟨#[]⟩, .string ⟨#[]⟩, .bool false, .slice none 0 0], .agg #[.string ⟨#[]⟩, .string ⟨#[]⟩, .bool false, .slice none 0 0], .slice none 0 0] 8 (tsW_os os) (World.shaped_of_ZipB (by kernel_rfl) (by kernel_rfl)) (by kernel_rfl) (by kernel_rfl) (by kernel_rfl) (ts_door os _)) ?_
  intro W base args ds gs before hval0 hW hwt hL hsh
  have hval : ∀ (j : Nat) t v, Tryz.f3.params[j]? = some t → args[j]? = some v → Value.okWide Tryz.prog W .any base t v := hval0
  have hW' := hW
  obtain ⟨p, q, hA0, hV, rfl, hfz, hnd⟩ := hW
  have hA : DataW.TrodAll enc Tryz.prog W 0 (fun _ => true) true Tryz.f3.params.toList args.toList ds p := hA0
  have hwt' : (DataW.weightsEach Tryz.prog (Tryz.f3.params.toList ++ _) (ds ++ gs)).all (· ≤ reachBytes) = true := hwt
  rw [Tryz.params3] at hA hval hwt'
  obtain ⟨v0, vs0, d0, ds0, p0, q0, hargs, rfl, rfl, h0, r0⟩ := trodAll_cons hA
  obtain ⟨v1, vs1, d1, ds1, p1, q1, rfl, rfl, rfl, h1, r1⟩ := trodAll_cons r0
  obtain ⟨v2, vs2, d2, ds2, p2, q2, rfl, rfl, rfl, h2, r2⟩ := trodAll_cons r1
  obtain ⟨rfl, rfl, rfl⟩ := trodAll_nil r2
  obtain rfl : args = #[v0, v1, v2] := by cases args; simp_all
  obtain ⟨rfl, rfl⟩ := trodVars_none hV
  have k0 := h0
  have lt0 : ∀ x ∈ p0, x.block < W.heap.size := by obtain ⟨m, hm⟩ := k0; exact DataW.trod_lt m _ _ _ hm
  have hw0 : ∀ n ∈ d0.weights Tryz.prog 24, n ≤ reachBytes := fun n hn => by
    have := List.all_eq_true.1 hwt' n (DataW.weights_mem_each (j := 0) rfl rfl n hn)
    simpa using this
  have k1 := h1
  have lt1 : ∀ x ∈ p1, x.block < W.heap.size := by obtain ⟨m, hm⟩ := k1; exact DataW.trod_lt m _ _ _ hm
  have hw1 : ∀ n ∈ d1.weights Tryz.prog 24, n ≤ reachBytes := fun n hn => by
    have := List.all_eq_true.1 hwt' n (DataW.weights_mem_each (j := 1) rfl rfl n hn)
    simpa using this
  have k2 := h2
  have lt2 : ∀ x ∈ p2, x.block < W.heap.size := by obtain ⟨m, hm⟩ := k2; exact DataW.trod_lt m _ _ _ hm
  have hw2 : ∀ n ∈ d2.weights Tryz.prog 25, n ≤ reachBytes := fun n hn => by
    have := List.all_eq_true.1 hwt' n (DataW.weights_mem_each (j := 2) rfl rfl n hn)
    simpa using this
  obtain ⟨t0, rfl, ht0⟩ := node_arg (hval 0 24 v0 rfl rfl) h0 hw0
  obtain ⟨t1, rfl, ht1⟩ := node_arg (hval 1 24 v1 rfl rfl) h1 hw1
  obtain ⟨a2, n2, c2, rfl⟩ := okWide_slice Tryz.underlying25 (hval 2 25 v2 rfl rfl)
  obtain ⟨L2, hL2⟩ := changes_arg h2 hw2
  obtain ⟨hh, E, henv⟩ := env_of_tr hL
  clear hA0 hval0
  refine (diffTells_true E W.heap.size t0 t1 _ L2 W ht0 ht1 hL2 henv hh (Ml.of_shaped hsh)).mono fun e W' ⟨he, bel⟩ => ?_
  subst he
  exact ⟨_, rfl, _, _, _, [], _, [], hW', trodAll_mk1 (shut_bool Tryz.underlying4 _), (trodAll_cons_mk (Below.trod laidOutB' (by kernel_rfl) (of_decide_eq_true (by kernel_rfl)) k0 bel lt0) (trodAll_cons_mk (Below.trod laidOutB' (by kernel_rfl) (of_decide_eq_true (by kernel_rfl)) k1 bel lt1) (trodAll_cons_mk (Below.trod laidOutB' (by kernel_rfl) (of_decide_eq_true (by kernel_rfl)) k2 bel lt2) trodAll_mk0))), rfl, bel.frame _, fun h => by cases h⟩

theorem diffTells_holds : Rows.DiffTellsSaid :=
  OpenClaim.holds_of_wide 3 Tryz.f3 rfl rfl rfl rfl rfl rfl rfl ⟨rfl, rfl, rfl, rfl, rfl⟩ rfl rfl rfl rfl rfl (by kernel_rfl) Tryz.func3 (by kernel_rfl)
    (of_decide_eq_true (by kernel_rfl)) (by unfold Func.isWrapper; rw [if_neg (of_decide_eq_false (by kernel_rfl))]; exact ⟨rfl, rfl⟩)
    (fun os started H enc _ => diffTells_lifted os started H enc)

theorem diffTells_card : Rows.DiffTellsCardSaid :=
  Claim7.holds_tied_plain_at .later [] _ _ _ _
    diffTells_holds (fun _ h => by cases h) (by kernel_rfl) (fun _ h => by cases h) diffTells_row_tie rfl ⟨rfl, rfl⟩ (by kernel_rfl) rfl
    (fun f fn hf hfn => by
      obtain rfl : f = 3 := Option.some.inj ((show Tryz.prog.funcNamed "stillroom/stillroomlaw1.DiffTells" = some 3 by kernel_rfl).symm.trans hf) |>.symm
      obtain rfl : fn = Tryz.f3 := (Option.some.inj (Tryz.func3.symm.trans hfn)).symm
      exact ⟨by kernel_rfl, fun j t ht => by
        rw [Tryz.params3] at ht
        rcases j with _ | _ | _ | j
        · obtain rfl : t = 24 := by simpa using ht.symm
          exact (show Tryz.prog.wantsStandIn 24 = false by kernel_rfl)
        · obtain rfl : t = 24 := by simpa using ht.symm
          exact (show Tryz.prog.wantsStandIn 24 = false by kernel_rfl)
        · obtain rfl : t = 25 := by simpa using ht.symm
          exact (show Tryz.prog.wantsStandIn 25 = false by kernel_rfl)
        · simp at ht⟩)
    (by kernel_rfl)
#print axioms diffTells_card
end Go.Proofs.YtoaedkinlnkkhaaGreatDoor
