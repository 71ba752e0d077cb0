/- stillroomlaw2.InodeKeeps answers true for every input: the tied card. No condition of its own. -/
import Derived.Test.YtmcmkocnacdniaaDoorIk
import Derived.Test.YtmcmkocnacdniaaDoorArgs
import Derived.Test.YtmcmkocnacdniaaDoorFrm0
import Derived.Test.YtmcmkocnacdniaaDoorTie
import Derived.Test.YtmcmkocnacdniaaDoorCards
import Derived.SevenTiedAt
namespace Go.Proofs.YtmcmkocnacdniaaDoor
open Go.ChangeShapes Go.WideShapes Go.ChangeAt Go.RowKit Go.Deep

theorem fact_of {H : Type} {enc : TypeId × Value → H} {W : World} {base : Nat} {spare : Nat → Bool} {held : Bool} {fuel : Nat} {cs : List Value} {x : DataW H × List MemPlace} (hl : cs.length = 5)
    (h : DataW.trod enc Tryd.prog W base spare held fuel 32 cs = some x) : ∃ q : Filed, cs = [.string q.kind, .string q.s, .bool q.ex, .int .i64 q.n, .int .i64 q.bit] ∧ -9223372036854775808 ≤ q.n ∧ q.n ≤ 9223372036854775807 := by
  match cs, hl with
  | [c0, c1, c2, c3, c4], _ =>
    have k1 : Tryd.prog.cellsOf 3 = 1 := by kernel_rfl
    have k2 : Tryd.prog.cellsOf 4 = 1 := by kernel_rfl
    have k3 : Tryd.prog.cellsOf 9 = 1 := by kernel_rfl
    obtain ⟨n0, y0, f0⟩ := field_of Tryd.underlying32 h 0 _ rfl
    obtain ⟨n1, y1, f1⟩ := field_of Tryd.underlying32 h 1 _ rfl
    obtain ⟨n2, y2, f2⟩ := field_of Tryd.underlying32 h 2 _ rfl
    obtain ⟨n3, y3, f3⟩ := field_of Tryd.underlying32 h 3 _ rfl
    obtain ⟨n4, y4, f4⟩ := field_of Tryd.underlying32 h 4 _ rfl
    have g0 : DataW.trod enc Tryd.prog W base spare held n0 9 (([c0, c1, c2, c3, c4].drop 0).take (Tryd.prog.cellsOf 9)) = some y0 := f0
    have g1 : DataW.trod enc Tryd.prog W base spare held n1 9 (([c0, c1, c2, c3, c4].drop 1).take (Tryd.prog.cellsOf 9)) = some y1 := f1
    have g2 : DataW.trod enc Tryd.prog W base spare held n2 4 (([c0, c1, c2, c3, c4].drop 2).take (Tryd.prog.cellsOf 4)) = some y2 := f2
    have g3 : DataW.trod enc Tryd.prog W base spare held n3 3 (([c0, c1, c2, c3, c4].drop 3).take (Tryd.prog.cellsOf 3)) = some y3 := f3
    have g4 : DataW.trod enc Tryd.prog W base spare held n4 3 (([c0, c1, c2, c3, c4].drop 4).take (Tryd.prog.cellsOf 3)) = some y4 := f4
    rw [k3] at g0 g1
    rw [k2] at g2
    rw [k1] at g3 g4
    replace g0 : DataW.trod enc Tryd.prog W base spare held n0 9 [c0] = some y0 := g0
    replace g1 : DataW.trod enc Tryd.prog W base spare held n1 9 [c1] = some y1 := g1
    replace g2 : DataW.trod enc Tryd.prog W base spare held n2 4 [c2] = some y2 := g2
    replace g3 : DataW.trod enc Tryd.prog W base spare held n3 3 [c3] = some y3 := g3
    replace g4 : DataW.trod enc Tryd.prog W base spare held n4 3 [c4] = some y4 := g4
    obtain ⟨s0, e0, -⟩ := DataW.trod_string Tryd.underlying9 g0
    obtain ⟨s1, e1, -⟩ := DataW.trod_string Tryd.underlying9 g1
    obtain ⟨t2, e2, -⟩ := DataW.trod_bool Tryd.underlying4 g2
    obtain ⟨t3, e3, -, hw⟩ := DataW.trod_int Tryd.underlying3 g3
    obtain ⟨t4, e4, -⟩ := DataW.trod_int Tryd.underlying3 g4
    simp at e0 e1 e2 e3 e4
    subst e0 e1 e2 e3 e4
    have hw2 : -9223372036854775808 ≤ t3 ∧ t3 ≤ 9223372036854775807 := by simp [Lit.wf, IntKind.min, IntKind.max, IntKind.signed, IntKind.bits] at hw; omega
    exact ⟨⟨s0, s1, t2, t3, t4⟩, rfl, hw2.1, hw2.2⟩

theorem facts_of {H : Type} {enc : TypeId × Value → H} {W : World} {base : Nat} {spare : Nat → Bool} {held : Bool} {fuel : Nat} {a : Option Addr} {len cap : Nat} {x : DataW H × List MemPlace}
    (h : DataW.trod enc Tryd.prog W base spare held fuel 22 [.slice a len cap] = some x) : ∃ L : List Filed, L.length = len ∧ FActs W a L := by
  obtain ⟨-, -, hx⟩ := elems_of (c := 5) Tryd.underlying22 (by kernel_rfl) (by decide) h
  obtain ⟨L, hl, hp⟩ := list_of_lt (p := fun i (q : Filed) => ∃ b off, a = some ⟨b, off, none⟩ ∧ W.cell? ⟨b, off + i * 5, none⟩ = some (.string q.kind) ∧ W.cell? ⟨b, off + i * 5 + 1, none⟩ = some (.string q.s) ∧ W.cell? ⟨b, off + i * 5 + 2, none⟩ = some (.bool q.ex) ∧
    W.cell? ⟨b, off + i * 5 + 3, none⟩ = some (.int .i64 q.n) ∧ W.cell? ⟨b, off + i * 5 + 4, none⟩ = some (.int .i64 q.bit) ∧ -9223372036854775808 ≤ q.n ∧ q.n ≤ 9223372036854775807) len (fun i hi => by
    obtain ⟨b, off, n, d, cs, e, -, hc, hcell, ht⟩ := hx i hi
    obtain ⟨q, rfl, hs⟩ := fact_of hc ht
    exact ⟨q, b, off, e, hcell 0 (by simp), hcell 1 (by simp), hcell 2 (by simp), hcell 3 (by simp), hcell 4 (by simp), hs⟩)
  exact ⟨L, hl, hp⟩

/-- The five listed sentinels. -/
def ikL : List (String × Nat × List UInt8) := [
  ("stillroom/api.ErrBound", 0, [115, 116, 105, 108, 108, 114, 111, 111, 109, 58, 32, 98, 111, 117, 110, 100]),
  ("stillroom/api.ErrShape", 3, [115, 116, 105, 108, 108, 114, 111, 111, 109, 58, 32, 115, 104, 97, 112, 101]),
  ("stillroom/api.ErrNone", 1, [115, 116, 105, 108, 108, 114, 111, 111, 109, 58, 32, 110, 111, 110, 101]),
  ("stillroom/api.ErrFull", 4, [115, 116, 105, 108, 108, 114, 111, 111, 109, 58, 32, 102, 117, 108, 108]),
  ("stillroom/api.ErrSum", 2, [115, 116, 105, 108, 108, 114, 111, 111, 109, 58, 32, 115, 117, 109])]
def ikLaid : List (String × DataW Unit) := ikL.map fun x => (x.1, sentD x.2.2)
theorem env_of_ik {W : World} (h : laidMetH Tryd.prog ikLaid W) : ∃ E, Env [0, 3, 1, 4, 2] W.heap.size W E := by
  have h' : laidMet Tryd.prog (ikL.map fun x => (x.1, sentD x.2.2)) W := h
  exact env_of_laid ikL (fun x hx => by
    simp only [ikL, List.mem_cons, List.not_mem_nil, or_false] at hx
    rcases hx with rfl | rfl | rfl | rfl | rfl <;> exact ⟨by kernel_rfl, by kernel_rfl⟩) (by decide) h'

theorem ik_door (os : Os) (args : Array Value) : laidMetH Tryd.prog ikLaid ((World.doorLaid Tryd.prog 400 os).forCall (fun _ _ => 0) ⟨#[], args, []⟩).memory :=
  laidMetH_of_parts3 (fuel := 8) (laidMet_of_run' 8 (by kernel_rfl) (by kernel_rfl)) (by kernel_rfl) (by kernel_rfl)

set_option maxRecDepth 100000 in
theorem ik_lifted (os : Os) (started : os.Started) (H : Type) (enc : TypeId × Value → H) :
    ReturnsInHanded {} Tryd.checked os 3 .any (fun w args => (Rows.inodeKeepsSpec.pre enc Tryd.prog Tryd.f3 [] false w args ∧ laidMetH Tryd.prog ikLaid w) ∧ sizedMet enc Tryd.prog Tryd.f3 (OpenSpec.ofChange Rows.inodeKeepsSpec) false w args)
      (Rows.inodeKeepsSpec.post enc Tryd.prog Tryd.f3 false true false false) := by
  refine returnsInHanded_of_change_and (C := Tryd.checked) (X := fun w _ => laidMetH Tryd.prog ikLaid w) (fun _ _ _ hh h => h.of_heap hh) ownK started (by kernel_rfl) Tryd.func3
    (ChangeSpec.witness_shaped (enc := enc) (C := Tryd.checked) (os := os) (X := fun w _ => laidMetH Tryd.prog ikLaid w) false (World.doorLaid Tryd.prog 400 os) #[.int .i64 0, .slice none 0 0] 8 rfl (World.shaped_of_RefB (by kernel_rfl) (by kernel_rfl)) (by kernel_rfl) (by kernel_rfl) (by kernel_rfl) (ik_door os _)) ?_
  intro W base args ds gs before hval0 hW _ _ hL _
  have hval : ∀ (j : Nat) t v, Tryd.f3.params[j]? = some t → args[j]? = some v → Value.okWide Tryd.prog W .any base t v := hval0
  have hW' := hW
  obtain ⟨p, q, hA0, hV, rfl, hfz, hnd⟩ := hW
  have hA : DataW.TrodAll enc Tryd.prog W 0 (fun _ => true) true Tryd.f3.params.toList args.toList ds p := hA0
  rw [Tryd.params3] at hA hval
  obtain ⟨v0, vs0, d0, ds0, p0, q0, hargs, rfl, rfl, h0, r0⟩ := trodAll_cons hA
  obtain ⟨v1, vs1, d1, ds1, p1, q1, rfl, rfl, rfl, h1, r1⟩ := trodAll_cons r0
  obtain ⟨rfl, rfl, rfl⟩ := trodAll_nil r1
  obtain rfl : args = #[v0, v1] := by cases args; simp_all
  obtain ⟨rfl, rfl⟩ := trodVars_none hV
  obtain ⟨n, rfl, rfl, rfl, w0⟩ := open_int Tryd.underlying3 (hval 0 3 v0 rfl rfl) h0
  obtain ⟨a1, len1, cap1, rfl⟩ := okWide_slice Tryd.underlying22 (hval 1 22 v1 rfl rfl)
  have k1 := h1
  have lt1 : ∀ x ∈ p1, x.block < W.heap.size := by obtain ⟨m, hm⟩ := k1; exact DataW.trod_lt m _ _ _ hm
  obtain ⟨L, hlen, hw⟩ : ∃ L : List Filed, L.length = len1 ∧ FActs W a1 L := by
    obtain ⟨fuel, hf⟩ := h1
    exact facts_of hf
  subst hlen
  obtain ⟨E, henv⟩ := env_of_ik hL
  clear hA0 hval0
  refine (ik_walk _ (by decide) (by decide) (by decide) E n a1 cap1 L W henv hw).mono fun e W' ⟨he, bel⟩ => ?_
  subst he
  exact ⟨_, rfl, _, _, _, [], _, [], hW', trodAll_mk1 (shut_bool Tryd.underlying4 _), (trodAll_cons_mk (shut_int Tryd.underlying3 w0) (trodAll_cons_mk (Below.trod laidOutB' (by kernel_rfl) (of_decide_eq_true (by kernel_rfl)) k1 bel lt1) trodAll_mk0)), rfl, bel.frame _, fun h => by cases h⟩

theorem inodeKeeps_holds : Rows.InodeKeepsSaid :=
  OpenClaim.holds_of_wide 3 Tryd.f3 rfl rfl rfl rfl rfl rfl rfl ⟨rfl, rfl, rfl, rfl, rfl⟩ rfl rfl rfl rfl rfl (by kernel_rfl) Tryd.func3 (by kernel_rfl)
    (of_decide_eq_true (by kernel_rfl)) (by unfold Func.isWrapper; rw [if_neg (of_decide_eq_false (by kernel_rfl))]; exact ⟨rfl, rfl⟩)
    (fun os started H enc _ => ik_lifted os started H enc)

theorem inodeKeeps_card : Rows.InodeKeepsCardSaid :=
  Claim7.holds_tied_plain_at .later [] _ _ _ _
    inodeKeeps_holds (fun _ h => by cases h) (by kernel_rfl) (fun _ h => by cases h) inodeKeeps_row_tie rfl ⟨rfl, rfl⟩ (by kernel_rfl) rfl
    (fun f fn hf hfn => by
      obtain rfl : f = 3 := Option.some.inj ((show Tryd.prog.funcNamed "stillroom/stillroomlaw2.InodeKeeps" = some 3 by kernel_rfl).symm.trans hf) |>.symm
      obtain rfl : fn = Tryd.f3 := (Option.some.inj (Tryd.func3.symm.trans hfn)).symm
      exact ⟨by kernel_rfl, fun j t ht => by
        rw [Tryd.params3] at ht
        rcases j with _ | _ | j
        · obtain rfl : t = 3 := by simpa using ht.symm
          exact (show Tryd.prog.wantsStandIn 3 = false by kernel_rfl)
        · obtain rfl : t = 22 := by simpa using ht.symm
          exact (show Tryd.prog.wantsStandIn 22 = false by kernel_rfl)
        · simp at ht⟩)
    (by kernel_rfl)
#print axioms inodeKeeps_card
end Go.Proofs.YtmcmkocnacdniaaDoor
