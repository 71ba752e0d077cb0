/- stillroomlaw2.DiskActs answers true for every input: the tied card. No condition of its own. -/
import Derived.Test.YtgckmlafpmnekaaDoorDa
import Derived.Test.YtgckmlafpmnekaaDoorArgs
import Derived.Test.YtgckmlafpmnekaaDoorTie
import Derived.Test.YtgckmlafpmnekaaDoorCards
import Derived.SevenTiedAt
namespace Go.Proofs.YtgckmlafpmnekaaDoor
open Go.ChangeShapes Go.WideShapes Go.ChangeAt Go.RowKit Go.Deep

theorem actd_of {H : Type} {enc : TypeId × Value → H} {W : World} {base : Nat} {spare : Nat → Bool} {held : Bool} {fuel : Nat} {cs : List Value} {x : DataW H × List MemPlace} (hl : cs.length = 5)
    (h : DataW.trod enc Tryd.prog W base spare held fuel 40 cs = some x) : ∃ (q : ActD) (ka : Option Addr) (kcap : Nat), cs = [.string q.kind, .string q.s, .int .i64 q.k, .int .i64 q.bit, .slice ka q.keep.length kcap] ∧ Sl W (.slice ka q.keep.length kcap) (icells q.keep) q.keep.length 1 := by
  match cs, hl with
  | [c0, c1, c2, c3, c4], _ =>
    have k1 : Tryd.prog.cellsOf 3 = 1 := by kernel_rfl
    have k2 : Tryd.prog.cellsOf 22 = 1 := by kernel_rfl
    have k3 : Tryd.prog.cellsOf 9 = 1 := by kernel_rfl
    obtain ⟨n0, y0, f0⟩ := field_of Tryd.underlying40 h 0 _ rfl
    obtain ⟨n1, y1, f1⟩ := field_of Tryd.underlying40 h 1 _ rfl
    obtain ⟨n2, y2, f2⟩ := field_of Tryd.underlying40 h 2 _ rfl
    obtain ⟨n3, y3, f3⟩ := field_of Tryd.underlying40 h 3 _ rfl
    obtain ⟨n4, y4, f4⟩ := field_of Tryd.underlying40 h 4 _ rfl
    have g0 : DataW.trod enc Tryd.prog W base spare held n0 9 (([c0, c1, c2, c3, c4].drop 0).take (Tryd.prog.cellsOf 9)) = some y0 := f0
    have g1 : DataW.trod enc Tryd.prog W base spare held n1 9 (([c0, c1, c2, c3, c4].drop 1).take (Tryd.prog.cellsOf 9)) = some y1 := f1
    have g2 : DataW.trod enc Tryd.prog W base spare held n2 3 (([c0, c1, c2, c3, c4].drop 2).take (Tryd.prog.cellsOf 3)) = some y2 := f2
    have g3 : DataW.trod enc Tryd.prog W base spare held n3 3 (([c0, c1, c2, c3, c4].drop 3).take (Tryd.prog.cellsOf 3)) = some y3 := f3
    have g4 : DataW.trod enc Tryd.prog W base spare held n4 22 (([c0, c1, c2, c3, c4].drop 4).take (Tryd.prog.cellsOf 22)) = some y4 := f4
    rw [k3] at g0 g1
    rw [k1] at g2 g3
    rw [k2] at g4
    replace g0 : DataW.trod enc Tryd.prog W base spare held n0 9 [c0] = some y0 := g0
    replace g1 : DataW.trod enc Tryd.prog W base spare held n1 9 [c1] = some y1 := g1
    replace g2 : DataW.trod enc Tryd.prog W base spare held n2 3 [c2] = some y2 := g2
    replace g3 : DataW.trod enc Tryd.prog W base spare held n3 3 [c3] = some y3 := g3
    replace g4 : DataW.trod enc Tryd.prog W base spare held n4 22 [c4] = some y4 := g4
    obtain ⟨s0, e0, -⟩ := DataW.trod_string Tryd.underlying9 g0
    obtain ⟨s1, e1, -⟩ := DataW.trod_string Tryd.underlying9 g1
    obtain ⟨t2, e2, -⟩ := DataW.trod_int Tryd.underlying3 g2
    obtain ⟨t3, e3, -⟩ := DataW.trod_int Tryd.underlying3 g3
    obtain ⟨gv, gl, e4, hs⟩ := ints_of g4
    obtain ⟨ka, kcap, rfl, _⟩ := id hs
    simp at e0 e1 e2 e3 e4
    subst e0 e1 e2 e3 e4
    exact ⟨⟨s0, s1, t2, t3, gl⟩, ka, kcap, rfl, hs⟩

theorem actsd_of {H : Type} {enc : TypeId × Value → H} {W : World} {base : Nat} {spare : Nat → Bool} {held : Bool} {fuel : Nat} {a : Option Addr} {len cap : Nat} {x : DataW H × List MemPlace}
    (h : DataW.trod enc Tryd.prog W base spare held fuel 35 [.slice a len cap] = some x) : ∃ L : List ActD, L.length = len ∧ ActsD W a L := by
  obtain ⟨-, -, hx⟩ := elems_of (c := 5) Tryd.underlying35 (by kernel_rfl) (by decide) h
  obtain ⟨L, hl, hp⟩ := list_of_lt (p := fun i (q : ActD) => ∃ b off ka kcap, a = some ⟨b, off, none⟩ ∧ W.cell? ⟨b, off + i * 5, none⟩ = some (.string q.kind) ∧ W.cell? ⟨b, off + i * 5 + 1, none⟩ = some (.string q.s) ∧ W.cell? ⟨b, off + i * 5 + 2, none⟩ = some (.int .i64 q.k) ∧
    W.cell? ⟨b, off + i * 5 + 3, none⟩ = some (.int .i64 q.bit) ∧ W.cell? ⟨b, off + i * 5 + 4, none⟩ = some (.slice ka q.keep.length kcap) ∧ Sl W (.slice ka q.keep.length kcap) (icells q.keep) q.keep.length 1) len (fun i hi => by
    obtain ⟨b, off, n, d, cs, e, -, hc, hcell, ht⟩ := hx i hi
    obtain ⟨q, ka, kcap, rfl, hs⟩ := actd_of hc ht
    exact ⟨q, b, off, ka, kcap, e, hcell 0 (by simp), hcell 1 (by simp), hcell 2 (by simp), hcell 3 (by simp), hcell 4 (by simp), hs⟩)
  exact ⟨L, hl, hp⟩

theorem da_all (n : Int) (a : Option Addr) (len cap : Nat) (L : List ActD) (s : ByteArray) (w : World) (hL : ActsD w a L) (hlen : L.length = len) (E : Nat → Addr) (henv : Env codeGs w.heap.size w E) (hh : Hnd w) :
    Calls Tryd.prog 8 #[.int .i64 n, .slice a len cap, .string s] w fun e w' => e = .returned (.bool true) ∧ Below w.heap.size w w' := by
  by_cases h : (40 < n ∧ n ≤ 512) ∨ 50 < len ∨ 200 < s.size
  · exact da_early n a len cap s w h
  · by_cases h2 : n < 1 ∨ 512 < n
    · exact da_bad E n a len cap s w henv hh h2 (by omega) (by omega)
    · obtain ⟨m, rfl⟩ := Int.eq_ofNat_of_zero_le (show 0 ≤ n by omega)
      subst hlen
      exact da_good E m a cap L s w henv hh (by omega) (by omega) (by omega) (by omega) hL

theorem da_door (os : Os) (args : Array Value) : laidMetH Tryd.prog laidAll ((World.doorLaid Tryd.prog 400 os).forCall (fun _ _ => 0) ⟨#[], args, []⟩).memory :=
  laidMetH_of_parts3 (fuel := 8) (laidMet_of_run' 8 (by kernel_rfl) (by kernel_rfl)) (by kernel_rfl) (by kernel_rfl)

set_option maxRecDepth 100000 in
theorem da_lifted (os : Os) (started : os.Started) (H : Type) (enc : TypeId × Value → H) :
    ReturnsInHanded {} Tryd.checked os 8 .any (fun w args => (Rows.diskActsSpec.pre enc Tryd.prog Tryd.f8 [] false w args ∧ laidMetH Tryd.prog laidAll w) ∧ sizedMet enc Tryd.prog Tryd.f8 (OpenSpec.ofChange Rows.diskActsSpec) false w args)
      (Rows.diskActsSpec.post enc Tryd.prog Tryd.f8 false true false false) := by
  refine returnsInHanded_of_change_and (C := Tryd.checked) (X := fun w _ => laidMetH Tryd.prog laidAll w) (fun _ _ _ hh h => h.of_heap hh) ownK started (by kernel_rfl) Tryd.func8
    (ChangeSpec.witness_shaped (enc := enc) (C := Tryd.checked) (os := os) (X := fun w _ => laidMetH Tryd.prog laidAll w) false (World.doorLaid Tryd.prog 400 os) #[.int .i64 0, .slice none 0 0, .string ⟨#[]⟩] 8 rfl (World.shaped_of_RefB (by kernel_rfl) (by kernel_rfl)) (by kernel_rfl) (by kernel_rfl) (by kernel_rfl) (da_door os _)) ?_
  intro W base args ds gs before hval0 hW _ _ hL _
  have hval : ∀ (j : Nat) t v, Tryd.f8.params[j]? = some t → args[j]? = some v → Value.okWide Tryd.prog W .any base t v := hval0
  have hW' := hW
  obtain ⟨p, q, hA0, hV, rfl, hfz, hnd⟩ := hW
  have hA : DataW.TrodAll enc Tryd.prog W 0 (fun _ => true) true Tryd.f8.params.toList args.toList ds p := hA0
  rw [Tryd.params8] at hA hval
  obtain ⟨v0, vs0, d0, ds0, p0, q0, hargs, rfl, rfl, h0, r0⟩ := trodAll_cons hA
  obtain ⟨v1, vs1, d1, ds1, p1, q1, rfl, rfl, rfl, h1, r1⟩ := trodAll_cons r0
  obtain ⟨v2, vs2, d2, ds2, p2, q2, rfl, rfl, rfl, h2, r2⟩ := trodAll_cons r1
  obtain ⟨rfl, rfl, rfl⟩ := trodAll_nil r2
  obtain rfl : args = #[v0, v1, v2] := by cases args; simp_all
  obtain ⟨rfl, rfl⟩ := trodVars_none hV
  obtain ⟨n, rfl, rfl, rfl, w0⟩ := open_int Tryd.underlying3 (hval 0 3 v0 rfl rfl) h0
  obtain ⟨a1, len1, cap1, rfl⟩ := okWide_slice Tryd.underlying35 (hval 1 35 v1 rfl rfl)
  obtain ⟨s, rfl⟩ := okWide_string Tryd.underlying9 (hval 2 9 v2 rfl rfl)
  obtain rfl : p2 = [] := by
    obtain ⟨m2, hm2⟩ := id h2
    obtain ⟨s', es, hx, -⟩ := DataW.trod_string Tryd.underlying9 hm2
    exact congrArg Prod.snd hx
  have k1 := h1
  have lt1 : ∀ x ∈ p1, x.block < W.heap.size := by obtain ⟨m, hm⟩ := k1; exact DataW.trod_lt m _ _ _ hm
  have k2 := h2
  obtain ⟨L, hlen, hw⟩ : ∃ L : List ActD, L.length = len1 ∧ ActsD W a1 L := by
    obtain ⟨fuel, hf⟩ := h1
    exact actsd_of hf
  obtain ⟨hh, E, henv⟩ := env_of_all hL
  clear hA0 hval0
  refine (da_all n a1 len1 cap1 L s W hw hlen E henv hh).mono fun e W' ⟨he, bel⟩ => ?_
  subst he
  exact ⟨_, rfl, _, _, _, [], _, [], hW', trodAll_mk1 (shut_bool Tryd.underlying4 _), (trodAll_cons_mk (shut_int Tryd.underlying3 w0) (trodAll_cons_mk (Below.trod laidOutB' (by kernel_rfl) (of_decide_eq_true (by kernel_rfl)) k1 bel lt1) (trodAll_cons_mk (Below.trod laidOutB' (by kernel_rfl) (of_decide_eq_true (by kernel_rfl)) k2 bel (fun x hx => by simp at hx)) trodAll_mk0))), rfl, bel.frame _, fun h => by cases h⟩

theorem diskActs_holds : Rows.DiskActsSaid :=
  OpenClaim.holds_of_wide 8 Tryd.f8 rfl rfl rfl rfl rfl rfl rfl ⟨rfl, rfl, rfl, rfl, rfl⟩ rfl rfl rfl rfl rfl (by kernel_rfl) Tryd.func8 (by kernel_rfl)
    (of_decide_eq_true (by kernel_rfl)) (by unfold Func.isWrapper; rw [if_neg (of_decide_eq_false (by kernel_rfl))]; exact ⟨rfl, rfl⟩)
    (fun os started H enc _ => da_lifted os started H enc)

theorem diskActs_card : Rows.DiskActsCardSaid :=
  Claim7.holds_tied_plain_at .later [] _ _ _ _
    diskActs_holds (fun _ h => by cases h) (by kernel_rfl) (fun _ h => by cases h) diskActs_row_tie rfl ⟨rfl, rfl⟩ (by kernel_rfl) rfl
    (fun f fn hf hfn => by
      obtain rfl : f = 8 := Option.some.inj ((show Tryd.prog.funcNamed "stillroom/stillroomlaw2.DiskActs" = some 8 by kernel_rfl).symm.trans hf) |>.symm
      obtain rfl : fn = Tryd.f8 := (Option.some.inj (Tryd.func8.symm.trans hfn)).symm
      exact ⟨by kernel_rfl, fun j t ht => by
        rw [Tryd.params8] at ht
        rcases j with _ | _ | _ | j
        · obtain rfl : t = 3 := by simpa using ht.symm
          exact (show Tryd.prog.wantsStandIn 3 = false by kernel_rfl)
        · obtain rfl : t = 35 := by simpa using ht.symm
          exact (show Tryd.prog.wantsStandIn 35 = false by kernel_rfl)
        · obtain rfl : t = 9 := by simpa using ht.symm
          exact (show Tryd.prog.wantsStandIn 9 = false by kernel_rfl)
        · simp at ht⟩)
    (by kernel_rfl)
#print axioms diskActs_card
end Go.Proofs.YtgckmlafpmnekaaDoor
