/- stillroomlaw1.TreeSums answers true for every input: the tied card. No condition of its own. -/
import Derived.Test.YtccplkbbaodpeaaDoorTrV
import Derived.Test.YtccplkbbaodpeaaDoorTrX
import Derived.Test.YtccplkbbaodpeaaDoorTie
import Derived.Test.YtccplkbbaodpeaaDoorCards
import Derived.SevenTiedAt
import Derived.LaidSub
import Derived.Lay
import Derived.Lib.LaidIn
namespace Go.Proofs.YtccplkbbaodpeaaDoor
open Go.ChangeShapes Go.WideShapes Go.ChangeAt Go.RowKit Go.Deep

/-- The listed variables of the trees' statements. -/
def trLaid : List (String × DataW Unit) := ("unicode/utf8.acceptRanges", Rows.laid_unicode_utf8_acceptRanges) :: ("errors.errorType", hndD) :: ((sentL.map fun x => (x.1, sentD x.2.2)) ++ [("unicode/utf8.first", Rows.laid_unicode_utf8_first)])
set_option maxRecDepth 100000 in
theorem env_of_tr {W : World} (h : laidMetH Tryd.prog trLaid W) : Hnd W ∧ ∃ E, Env codeGs W.heap.size W E := by
  have h' : laidMet Tryd.prog (("unicode/utf8.acceptRanges", Rows.laid_unicode_utf8_acceptRanges) :: ((sentL.map fun x => (x.1, sentD x.2.2)) ++ [("unicode/utf8.first", Rows.laid_unicode_utf8_first)])) W ∧ handlesMet Tryd.prog [("errors.errorType", hndD)] W := h
  have h2 := h'.1.filter (fun x => (sentL.map (·.1)).contains x.1)
  have e2 : (("unicode/utf8.acceptRanges", Rows.laid_unicode_utf8_acceptRanges) :: ((sentL.map fun x => (x.1, sentD x.2.2)) ++ [("unicode/utf8.first", Rows.laid_unicode_utf8_first)])).filter (fun x => (sentL.map (·.1)).contains x.1) = sentL.map fun x => (x.1, sentD x.2.2) := by kernel_rfl
  rw [e2] at h2
  exact ⟨hnd_of_met h'.2, env_of_laid sentL sentL_ok (by decide) h2⟩

set_option maxRecDepth 100000 in
/-- A tree by value. -/
theorem node_arg {H : Type} {enc : TypeId × Value → H} {W : World} {base b0 : Nat} {spare : Nat → Bool} {held : Bool} {v : Value} {d : DataW H} {p : List MemPlace} (hv : Value.okWide Tryd.prog W .any b0 24 v)
    (h : DataW.Trod enc Tryd.prog W base spare held 24 v d p) (hw : ∀ n ∈ d.weights Tryd.prog 24, n ≤ reachBytes) : ∃ t : Lt, v = nval t ∧ t.Ok W := by
  obtain ⟨cs, rfl, -⟩ := okWide_struct Tryd.underlying24 hv
  obtain ⟨fuel, hf⟩ := h
  obtain ⟨t, ht, hok⟩ := node_of _ (Nat.le_refl _) hf hw
  refine ⟨t, ?_, hok⟩
  have e : cs.toList = ncells t := ht
  unfold nval
  congr 1
  apply Array.ext'
  rw [e]; rfl

/-- The witness's world: the door's, and the pinned table laid behind it. -/
noncomputable def tsW (os : Os) : World := (World.doorLaid Tryd.prog 400 os).layVars Tryd.prog [("unicode/utf8.first", Rows.laid_unicode_utf8_first)]
theorem tsW_os (os : Os) : (tsW os).os = os := (World.layVars_os _ _ _).trans rfl
/-- The blocks of the others. -/
noncomputable def tsB (os : Os) : List Nat := (List.range (World.doorLaid Tryd.prog 400 os).heap.size).filter (· != 14)
set_option maxRecDepth 100000 in
theorem ts_met (os : Os) (args : Array Value) : laidMet Tryd.prog (trLaid.filter fun x => x.2.handleName?.isNone) ((tsW os).forCall (fun _ _ => 0) ⟨#[], args, []⟩).memory :=
  laidMet_layVars (w0 := World.doorLaid Tryd.prog 400 os) ["unicode/utf8.first"] (tsB os) rfl (by kernel_rfl) (by kernel_rfl) (LaidIn.of_run (tsB os) 8 (by kernel_rfl) (by kernel_rfl) (by kernel_rfl) (by kernel_rfl))
set_option maxRecDepth 100000 in
theorem ts_door (os : Os) (args : Array Value) : laidMetH Tryd.prog trLaid ((tsW os).forCall (fun _ _ => 0) ⟨#[], args, []⟩).memory :=
  laidMetH_of_parts3 (fuel := 8) (ts_met os args) (by kernel_rfl) (by kernel_rfl)

set_option maxRecDepth 100000 in
theorem ts_lifted (os : Os) (started : os.Started) (H : Type) (enc : TypeId × Value → H) :
    ReturnsInHanded {} Tryd.checked os 4 .any (fun w args => (Rows.treeSumsSpec.pre enc Tryd.prog Tryd.f4 [] false w args ∧ laidMetH Tryd.prog trLaid w) ∧ sizedMet enc Tryd.prog Tryd.f4 (OpenSpec.ofChange Rows.treeSumsSpec) false w args)
      (Rows.treeSumsSpec.post enc Tryd.prog Tryd.f4 false true false false) := by
  refine returnsInHanded_of_change_and (C := Tryd.checked) (X := fun w _ => laidMetH Tryd.prog trLaid w) (fun _ _ _ hh h => h.of_heap hh) ownK started (by kernel_rfl) Tryd.func4
    (ChangeSpec.witness_shaped (enc := enc) (C := Tryd.checked) (os := os) (X := fun w _ => laidMetH Tryd.prog trLaid w) false (tsW os) #[.agg #[.string ⟨#[]⟩, .string ⟨#[]⟩, .bool false, .slice none 0 0]] 8 (tsW_os os) (World.shaped_of_ZipB (by kernel_rfl) (by kernel_rfl)) (by kernel_rfl) (by kernel_rfl) (by kernel_rfl) (ts_door os _)) ?_
  intro W base args ds gs before hval0 hW _ hwt hL _
  have hval : ∀ (j : Nat) t v, Tryd.f4.params[j]? = some t → args[j]? = some v → Value.okWide Tryd.prog W .any base t v := hval0
  have hW' := hW
  obtain ⟨p, q, hA0, hV, rfl, hfz, hnd⟩ := hW
  have hA : DataW.TrodAll enc Tryd.prog W 0 (fun _ => true) true Tryd.f4.params.toList args.toList ds p := hA0
  have hwt' : (DataW.weightsEach Tryd.prog (Tryd.f4.params.toList ++ _) (ds ++ gs)).all (· ≤ reachBytes) = true := hwt
  rw [Tryd.params4] at hA hval hwt'
  obtain ⟨v0, vs0, d0, ds0, p0, q0, hargs, rfl, rfl, h0, r0⟩ := trodAll_cons hA
  obtain ⟨rfl, rfl, rfl⟩ := trodAll_nil r0
  obtain rfl : args = #[v0] := by cases args; simp_all
  obtain ⟨rfl, rfl⟩ := trodVars_none hV
  have k0 := h0
  have lt0 : ∀ x ∈ p0, x.block < W.heap.size := by obtain ⟨m, hm⟩ := k0; exact DataW.trod_lt m _ _ _ hm
  have hw0 : ∀ n ∈ d0.weights Tryd.prog 24, n ≤ reachBytes := fun n hn => by
    have := List.all_eq_true.1 hwt' n (DataW.weights_mem_each (j := 0) rfl rfl n hn)
    simpa using this
  obtain ⟨t, rfl, ht⟩ := node_arg (hval 0 24 v0 rfl rfl) h0 hw0
  obtain ⟨hh, E, henv⟩ := env_of_tr hL
  clear hA0 hval0
  refine (sums_true E W.heap.size t W ht henv hh).mono fun e W' ⟨he, bel⟩ => ?_
  subst he
  exact ⟨_, rfl, _, _, _, [], _, [], hW', trodAll_mk1 (shut_bool Tryd.underlying4 _), (trodAll_cons_mk (Below.trod laidOutB' (by kernel_rfl) (of_decide_eq_true (by kernel_rfl)) k0 bel lt0) trodAll_mk0), rfl, bel.frame _, fun h => by cases h⟩

theorem treeSums_holds : Rows.TreeSumsSaid :=
  OpenClaim.holds_of_wide 4 Tryd.f4 rfl rfl rfl rfl rfl rfl rfl ⟨rfl, rfl, rfl, rfl, rfl⟩ rfl rfl rfl rfl rfl (by kernel_rfl) Tryd.func4 (by kernel_rfl)
    (of_decide_eq_true (by kernel_rfl)) (by unfold Func.isWrapper; rw [if_neg (of_decide_eq_false (by kernel_rfl))]; exact ⟨rfl, rfl⟩)
    (fun os started H enc _ => ts_lifted os started H enc)

theorem treeSums_card : Rows.TreeSumsCardSaid :=
  Claim7.holds_tied_plain_at .later [] _ _ _ _
    treeSums_holds (fun _ h => by cases h) (by kernel_rfl) (fun _ h => by cases h) treeSums_row_tie rfl ⟨rfl, rfl⟩ (by kernel_rfl) rfl
    (fun f fn hf hfn => by
      obtain rfl : f = 4 := Option.some.inj ((show Tryd.prog.funcNamed "stillroom/stillroomlaw1.TreeSums" = some 4 by kernel_rfl).symm.trans hf) |>.symm
      obtain rfl : fn = Tryd.f4 := (Option.some.inj (Tryd.func4.symm.trans hfn)).symm
      exact ⟨by kernel_rfl, fun j t ht => by
        rw [Tryd.params4] at ht
        rcases j with _ | j
        · obtain rfl : t = 24 := by simpa using ht.symm
          exact (show Tryd.prog.wantsStandIn 24 = false by kernel_rfl)
        · simp at ht⟩)
    (by kernel_rfl)
#print axioms treeSums_card
end Go.Proofs.YtccplkbbaodpeaaDoor
