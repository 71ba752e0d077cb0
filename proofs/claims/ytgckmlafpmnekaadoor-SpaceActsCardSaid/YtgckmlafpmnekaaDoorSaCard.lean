/- stillroomlaw2.SpaceActs answers true for every input: the tied card. No condition of its own. -/
import Derived.Test.YtgckmlafpmnekaaDoorSa2
import Derived.Test.YtgckmlafpmnekaaDoorArgs
import Derived.Test.YtgckmlafpmnekaaDoorTie
import Derived.Test.YtgckmlafpmnekaaDoorCards
import Derived.SevenTiedAt
namespace Go.Proofs.YtgckmlafpmnekaaDoor
open Go.ChangeShapes Go.WideShapes Go.ChangeAt Go.RowKit Go.Deep

theorem want_of {H : Type} {enc : TypeId × Value → H} {W : World} {base : Nat} {spare : Nat → Bool} {held : Bool} {fuel : Nat} {cs : List Value} {x : DataW H × List MemPlace} (hl : cs.length = 3)
    (h : DataW.trod enc Tryd.prog W base spare held fuel 64 cs = some x) : ∃ (t : Int) (gv : Value) (is : Bool) (gl : List Int), cs = [.int .i64 t, gv, .bool is] ∧ Sl W gv (icells gl) gl.length 1 := by
  match cs, hl with
  | [c0, c1, c2], _ =>
    have k1 : Tryd.prog.cellsOf 3 = 1 := by kernel_rfl
    have k2 : Tryd.prog.cellsOf 22 = 1 := by kernel_rfl
    have k3 : Tryd.prog.cellsOf 4 = 1 := by kernel_rfl
    obtain ⟨n0, y0, f0⟩ := field_of Tryd.underlying64 h 0 _ rfl
    obtain ⟨n1, y1, f1⟩ := field_of Tryd.underlying64 h 1 _ rfl
    obtain ⟨n2, y2, f2⟩ := field_of Tryd.underlying64 h 2 _ rfl
    have g0 : DataW.trod enc Tryd.prog W base spare held n0 3 (([c0, c1, c2].drop 0).take (Tryd.prog.cellsOf 3)) = some y0 := f0
    have g1 : DataW.trod enc Tryd.prog W base spare held n1 22 (([c0, c1, c2].drop 1).take (Tryd.prog.cellsOf 22)) = some y1 := f1
    have g2 : DataW.trod enc Tryd.prog W base spare held n2 4 (([c0, c1, c2].drop 2).take (Tryd.prog.cellsOf 4)) = some y2 := f2
    rw [k1] at g0
    rw [k2] at g1
    rw [k3] at g2
    replace g0 : DataW.trod enc Tryd.prog W base spare held n0 3 [c0] = some y0 := g0
    replace g1 : DataW.trod enc Tryd.prog W base spare held n1 22 [c1] = some y1 := g1
    replace g2 : DataW.trod enc Tryd.prog W base spare held n2 4 [c2] = some y2 := g2
    obtain ⟨t, e0, -⟩ := DataW.trod_int Tryd.underlying3 g0
    obtain ⟨gv, gl, e1, hs⟩ := ints_of g1
    obtain ⟨is, e2, -⟩ := DataW.trod_bool Tryd.underlying4 g2
    simp at e0 e1 e2
    subst e0 e1 e2
    exact ⟨t, _, is, gl, rfl, hs⟩

theorem wants_of {H : Type} {enc : TypeId × Value → H} {W : World} {base : Nat} {spare : Nat → Bool} {held : Bool} {fuel : Nat} {a : Option Addr} {len cap : Nat} {x : DataW H × List MemPlace}
    (h : DataW.trod enc Tryd.prog W base spare held fuel 61 [.slice a len cap] = some x) : ∃ L : List Wanted, L.length = len ∧ Wants W a L := by
  obtain ⟨-, -, hx⟩ := elems_of (c := 3) Tryd.underlying61 (by kernel_rfl) (by decide) h
  obtain ⟨L, hl, hp⟩ := list_of_lt (p := fun i (q : Wanted) => ∃ b off gv, a = some ⟨b, off, none⟩ ∧ W.cell? ⟨b, off + i * 3, none⟩ = some (.int .i64 q.t) ∧ W.cell? ⟨b, off + i * 3 + 1, none⟩ = some gv ∧ W.cell? ⟨b, off + i * 3 + 2, none⟩ = some (.bool q.is) ∧ Sl W gv (icells q.g) q.g.length 1) len (fun i hi => by
    obtain ⟨b, off, n, d, cs, e, -, hc, hcell, ht⟩ := hx i hi
    obtain ⟨t, gv, is, gl, rfl, hs⟩ := want_of hc ht
    exact ⟨⟨t, gl, is⟩, b, off, gv, e, hcell 0 (by simp), hcell 1 (by simp), hcell 2 (by simp), hs⟩)
  exact ⟨L, hl, hp⟩

theorem sa_all (n by_ : Int) (a : Option Addr) (len cap : Nat) (L : List Wanted) (w : World) (hL : Wants w a L) (hlen : L.length = len) (hb : -9223372036854775808 ≤ by_) (E : Nat → Addr) (henv : Env codeGs w.heap.size w E) (hh : Hnd w) :
    Calls Tryd.prog 6 #[.int .i64 n, .slice a len cap, .int .i64 by_] w fun e w' => e = .returned (.bool true) ∧ Below w.heap.size w w' := by
  by_cases h : (60 < n ∧ n ≤ 512) ∨ 60 < len ∨ 100000 < by_
  · exact sa_early n by_ a len cap w h
  · by_cases h2 : n < 1 ∨ 512 < n
    · exact sa_bad E n by_ a len cap w henv hh h2 (by omega) (by omega) hb
    · obtain ⟨m, rfl⟩ := Int.eq_ofNat_of_zero_le (show 0 ≤ n by omega)
      subst hlen
      exact sa_good E m by_ a cap L w henv hh (by omega) (by omega) (by omega) (by omega) hb hL

theorem sa_door (os : Os) (args : Array Value) : laidMetH Tryd.prog laidAll ((World.doorLaid Tryd.prog 400 os).forCall (fun _ _ => 0) ⟨#[], args, []⟩).memory :=
  laidMetH_of_parts3 (fuel := 8) (laidMet_of_run' 8 (by kernel_rfl) (by kernel_rfl)) (by kernel_rfl) (by kernel_rfl)

set_option maxRecDepth 100000 in
theorem sa_lifted (os : Os) (started : os.Started) (H : Type) (enc : TypeId × Value → H) :
    ReturnsInHanded {} Tryd.checked os 6 .any (fun w args => (Rows.spaceActsSpec.pre enc Tryd.prog Tryd.f6 [] false w args ∧ laidMetH Tryd.prog laidAll w) ∧ sizedMet enc Tryd.prog Tryd.f6 (OpenSpec.ofChange Rows.spaceActsSpec) false w args)
      (Rows.spaceActsSpec.post enc Tryd.prog Tryd.f6 false true false false) := by
  refine returnsInHanded_of_change_and (C := Tryd.checked) (X := fun w _ => laidMetH Tryd.prog laidAll w) (fun _ _ _ hh h => h.of_heap hh) ownK started (by kernel_rfl) Tryd.func6
    (ChangeSpec.witness_shaped (enc := enc) (C := Tryd.checked) (os := os) (X := fun w _ => laidMetH Tryd.prog laidAll w) false (World.doorLaid Tryd.prog 400 os) #[.int .i64 0, .slice none 0 0, .int .i64 0] 8 rfl (World.shaped_of_RefB (by kernel_rfl) (by kernel_rfl)) (by kernel_rfl) (by kernel_rfl) (by kernel_rfl) (sa_door os _)) ?_
  intro W base args ds gs before hval0 hW _ _ hL _
  have hval : ∀ (j : Nat) t v, Tryd.f6.params[j]? = some t → args[j]? = some v → Value.okWide Tryd.prog W .any base t v := hval0
  have hW' := hW
  obtain ⟨p, q, hA0, hV, rfl, hfz, hnd⟩ := hW
  have hA : DataW.TrodAll enc Tryd.prog W 0 (fun _ => true) true Tryd.f6.params.toList args.toList ds p := hA0
  rw [Tryd.params6] at hA hval
  obtain ⟨v0, vs0, d0, ds0, p0, q0, hargs, rfl, rfl, h0, r0⟩ := trodAll_cons hA
  obtain ⟨v1, vs1, d1, ds1, p1, q1, rfl, rfl, rfl, h1, r1⟩ := trodAll_cons r0
  obtain ⟨v2, vs2, d2, ds2, p2, q2, rfl, rfl, rfl, h2, r2⟩ := trodAll_cons r1
  obtain ⟨rfl, rfl, rfl⟩ := trodAll_nil r2
  obtain rfl : args = #[v0, v1, v2] := by cases args; simp_all
  obtain ⟨rfl, rfl⟩ := trodVars_none hV
  obtain ⟨n, rfl, rfl, rfl, w0⟩ := open_int Tryd.underlying3 (hval 0 3 v0 rfl rfl) h0
  obtain ⟨a1, len1, cap1, rfl⟩ := okWide_slice Tryd.underlying61 (hval 1 61 v1 rfl rfl)
  obtain ⟨by_, rfl, rfl, rfl, w2⟩ := open_int Tryd.underlying3 (hval 2 3 v2 rfl rfl) h2
  have k1 := h1
  have lt1 : ∀ x ∈ p1, x.block < W.heap.size := by obtain ⟨m, hm⟩ := k1; exact DataW.trod_lt m _ _ _ hm
  obtain ⟨L, hlen, hw⟩ : ∃ L : List Wanted, L.length = len1 ∧ Wants W a1 L := by
    obtain ⟨fuel, hf⟩ := h1
    exact wants_of hf
  obtain ⟨hh, E, henv⟩ := env_of_all hL
  have hb := (bounds_i64 w2).1
  clear hA0 hval0
  refine (sa_all n by_ a1 len1 cap1 L W hw hlen hb E henv hh).mono fun e W' ⟨he, bel⟩ => ?_
  subst he
  exact ⟨_, rfl, _, _, _, [], _, [], hW', trodAll_mk1 (shut_bool Tryd.underlying4 _), (trodAll_cons_mk (shut_int Tryd.underlying3 w0) (trodAll_cons_mk (Below.trod laidOutB' (by kernel_rfl) (of_decide_eq_true (by kernel_rfl)) k1 bel lt1) (trodAll_cons_mk (shut_int Tryd.underlying3 w2) trodAll_mk0))), rfl, bel.frame _, fun h => by cases h⟩

theorem spaceActs_holds : Rows.SpaceActsSaid :=
  OpenClaim.holds_of_wide 6 Tryd.f6 rfl rfl rfl rfl rfl rfl rfl ⟨rfl, rfl, rfl, rfl, rfl⟩ rfl rfl rfl rfl rfl (by kernel_rfl) Tryd.func6 (by kernel_rfl)
    (of_decide_eq_true (by kernel_rfl)) (by unfold Func.isWrapper; rw [if_neg (of_decide_eq_false (by kernel_rfl))]; exact ⟨rfl, rfl⟩)
    (fun os started H enc _ => sa_lifted os started H enc)

theorem spaceActs_card : Rows.SpaceActsCardSaid :=
  Claim7.holds_tied_plain_at .later [] _ _ _ _
    spaceActs_holds (fun _ h => by cases h) (by kernel_rfl) (fun _ h => by cases h) spaceActs_row_tie rfl ⟨rfl, rfl⟩ (by kernel_rfl) rfl
    (fun f fn hf hfn => by
      obtain rfl : f = 6 := Option.some.inj ((show Tryd.prog.funcNamed "stillroom/stillroomlaw2.SpaceActs" = some 6 by kernel_rfl).symm.trans hf) |>.symm
      obtain rfl : fn = Tryd.f6 := (Option.some.inj (Tryd.func6.symm.trans hfn)).symm
      exact ⟨by kernel_rfl, fun j t ht => by
        rw [Tryd.params6] at ht
        rcases j with _ | _ | _ | j
        · obtain rfl : t = 3 := by simpa using ht.symm
          exact (show Tryd.prog.wantsStandIn 3 = false by kernel_rfl)
        · obtain rfl : t = 61 := by simpa using ht.symm
          exact (show Tryd.prog.wantsStandIn 61 = false by kernel_rfl)
        · obtain rfl : t = 3 := by simpa using ht.symm
          exact (show Tryd.prog.wantsStandIn 3 = false by kernel_rfl)
        · simp at ht⟩)
    (by kernel_rfl)
#print axioms spaceActs_card
end Go.Proofs.YtgckmlafpmnekaaDoor
