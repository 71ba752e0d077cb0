/- stillroomlaw3.TapeActs answers true for every input: the tied card. No condition of its own. -/
import Derived.Test.YtpijgncmahbjhaaDoorTa
import Derived.Test.YtpijgncmahbjhaaDoorTpF
import Derived.Test.YtpijgncmahbjhaaDoorTie
import Derived.Test.YtpijgncmahbjhaaDoorCards
import Derived.SevenTiedAt
namespace Go.Proofs.YtpijgncmahbjhaaDoor
open Go.ChangeShapes Go.WideShapes Go.ChangeAt Go.RowKit Go.Deep

theorem wr_of {H : Type} {enc : TypeId × Value → H} {W : World} {base : Nat} {spare : Nat → Bool} {held : Bool} {fuel : Nat} {cs : List Value} {x : DataW H × List MemPlace} (hl : cs.length = 3)
    (h : DataW.trod enc Tryd.prog W base spare held fuel 44 cs = some x) : ∃ q : WrD, cs = [.string q.kind, .string q.s, .int .i64 q.n] ∧ q.n ≤ 9223372036854775807 := by
  match cs, hl with
  | [c0, c1, c2], _ =>
    have k1 : Tryd.prog.cellsOf 3 = 1 := by kernel_rfl
    have k3 : Tryd.prog.cellsOf 9 = 1 := by kernel_rfl
    obtain ⟨n0, y0, f0⟩ := field_of Tryd.underlying44 h 0 _ rfl
    obtain ⟨n1, y1, f1⟩ := field_of Tryd.underlying44 h 1 _ rfl
    obtain ⟨n2, y2, f2⟩ := field_of Tryd.underlying44 h 2 _ rfl
    have g0 : DataW.trod enc Tryd.prog W base spare held n0 9 (([c0, c1, c2].drop 0).take (Tryd.prog.cellsOf 9)) = some y0 := f0
    have g1 : DataW.trod enc Tryd.prog W base spare held n1 9 (([c0, c1, c2].drop 1).take (Tryd.prog.cellsOf 9)) = some y1 := f1
    have g2 : DataW.trod enc Tryd.prog W base spare held n2 3 (([c0, c1, c2].drop 2).take (Tryd.prog.cellsOf 3)) = some y2 := f2
    rw [k3] at g0 g1
    rw [k1] at g2
    replace g0 : DataW.trod enc Tryd.prog W base spare held n0 9 [c0] = some y0 := g0
    replace g1 : DataW.trod enc Tryd.prog W base spare held n1 9 [c1] = some y1 := g1
    replace g2 : DataW.trod enc Tryd.prog W base spare held n2 3 [c2] = some y2 := g2
    obtain ⟨s0, e0, -⟩ := DataW.trod_string Tryd.underlying9 g0
    obtain ⟨s1, e1, -⟩ := DataW.trod_string Tryd.underlying9 g1
    obtain ⟨t2, e2, -, hw⟩ := DataW.trod_int Tryd.underlying3 g2
    simp at e0 e1 e2
    subst e0 e1 e2
    exact ⟨⟨s0, s1, t2⟩, rfl, by simp [Lit.wf, IntKind.min, IntKind.max, IntKind.signed, IntKind.bits] at hw; simp only; omega⟩

theorem wrs_of {H : Type} {enc : TypeId × Value → H} {W : World} {base : Nat} {spare : Nat → Bool} {held : Bool} {fuel : Nat} {a : Option Addr} {len cap : Nat} {x : DataW H × List MemPlace}
    (h : DataW.trod enc Tryd.prog W base spare held fuel 39 [.slice a len cap] = some x) : ∃ L : List WrD, L.length = len ∧ WritesD W a L := by
  obtain ⟨-, -, hx⟩ := elems_of (c := 3) Tryd.underlying39 (by kernel_rfl) (by decide) h
  obtain ⟨L, hl, hp⟩ := list_of_lt (p := fun i (q : WrD) => ∃ b off, a = some ⟨b, off, none⟩ ∧ W.cell? ⟨b, off + i * 3, none⟩ = some (.string q.kind) ∧ W.cell? ⟨b, off + i * 3 + 1, none⟩ = some (.string q.s) ∧ W.cell? ⟨b, off + i * 3 + 2, none⟩ = some (.int .i64 q.n) ∧ q.n ≤ 9223372036854775807) len (fun i hi => by
    obtain ⟨b, off, n, d, cs, e, -, hc, hcell, ht⟩ := hx i hi
    obtain ⟨q, rfl, hn⟩ := wr_of hc ht
    exact ⟨q, b, off, e, hcell 0 (by simp), hcell 1 (by simp), hcell 2 (by simp), hn⟩)
  exact ⟨L, hl, hp⟩

theorem ta_all (E : Nat → Addr) (b : ByteArray) (a : Option Addr) (len cap : Nat) (L : List WrD) (w : World) (hL : WritesD w a L) (hlen : L.length = len) (hT : TEnv w) (hE : Env codeGs w.heap.size w E) (hh : Hnd w) :
    Calls Tryd.prog 5 #[.string b, .slice a len cap] w fun e w' => e = .returned (.bool true) ∧ Below w.heap.size w w' := by
  by_cases h : 2000 < b.size ∨ 50 < len
  · exact ta_early b a len cap w hT h
  · subst hlen
    exact ta_good E b a cap L w hL hT hE hh (by omega) (by omega)

/-- The two sentinels of the library. -/
def scL : List (String × Nat × List UInt8) := [
  ("strconv.ErrRange", 16, [118, 97, 108, 117, 101, 32, 111, 117, 116, 32, 111, 102, 32, 114, 97, 110, 103, 101]),
  ("strconv.ErrSyntax", 15, [105, 110, 118, 97, 108, 105, 100, 32, 115, 121, 110, 116, 97, 120])]
def taLaid : List (String × DataW Unit) := ("math/bits.deBruijn32tab", Rows.laid_math_bits_deBruijn32tab) :: ("math/bits.deBruijn64tab", Rows.laid_math_bits_deBruijn64tab) :: ("internal/strconv.uint64pow10", Rows.laid_internal_strconv_uint64pow10) :: ("errors.errorType", hndD) :: (sentL ++ scL).map fun x => (x.1, sentD x.2.2)

set_option maxRecDepth 100000 in
theorem taL_ok : ∀ x ∈ sentL ++ scL, Tryd.prog.globalNamed x.1 = some x.2.1 ∧ (Tryd.prog.globals[x.2.1]?).map (·.type) = some 26 := by
  intro x hx
  rcases List.mem_append.1 hx with hx | hx
  · exact sentL_ok x hx
  · simp only [scL, List.mem_cons, List.not_mem_nil, or_false] at hx
    rcases hx with rfl | rfl <;> exact ⟨by kernel_rfl, by kernel_rfl⟩

theorem tenv_of_ta {W : World} (hs : W.ShapedOpen Tryd.prog) (h : laidMetH Tryd.prog taLaid W) : TEnv W ∧ Hnd W ∧ ∃ E, Env codeGs W.heap.size W E := by
  have h1 := h.filter (fun x => x.1 == "internal/strconv.uint64pow10")
  have h2 := h.filter (fun x => ((sentL ++ scL).map (·.1)).contains x.1)
  have h3 := h.filter (fun x => x.1 == "errors.errorType")
  have e1 : taLaid.filter (fun x => x.1 == "internal/strconv.uint64pow10") = [("internal/strconv.uint64pow10", Rows.laid_internal_strconv_uint64pow10)] := by kernel_rfl
  have e2 : taLaid.filter (fun x => ((sentL ++ scL).map (·.1)).contains x.1) = (sentL ++ scL).map fun x => (x.1, sentD x.2.2) := by kernel_rfl
  have e3 : taLaid.filter (fun x => x.1 == "errors.errorType") = [("errors.errorType", hndD)] := by kernel_rfl
  rw [e1] at h1
  rw [e2] at h2
  rw [e3] at h3
  have h1' : laidMet Tryd.prog [("internal/strconv.uint64pow10", Rows.laid_internal_strconv_uint64pow10)] W := h1
  have h2' : laidMet Tryd.prog ((sentL ++ scL).map fun x => (x.1, sentD x.2.2)) W := h2
  have h3' : laidMet Tryd.prog [] W ∧ handlesMet Tryd.prog [("errors.errorType", hndD)] W := h3
  obtain ⟨E, hE⟩ := env_of_laid (sentL ++ scL) taL_ok (by decide) h2'
  exact ⟨⟨Lib.tabIs_of_head (g := 17) (t := 123) (e := 111) (n := 20) (by kernel_rfl) (by kernel_rfl) Tryd.underlying123 Tryd.underlying111 (by kernel_rfl) (by kernel_rfl) h1', Tryd.laysM145.s1_3 W hs, ⟨_, _, hE.cell 15 (by decide)⟩, ⟨_, _, hE.cell 16 (by decide)⟩⟩,
    hnd_of_met h3'.2, E, hE.sub (by decide)⟩

theorem ta_door (os : Os) (args : Array Value) : laidMetH Tryd.prog taLaid ((World.doorLaid Tryd.prog 400 os).forCall (fun _ _ => 0) ⟨#[], args, []⟩).memory :=
  laidMetH_of_parts3 (fuel := 8) (laidMet_of_run' 8 (by kernel_rfl) (by kernel_rfl)) (by kernel_rfl) (by kernel_rfl)

set_option maxRecDepth 100000 in
theorem ta_lifted (os : Os) (started : os.Started) (H : Type) (enc : TypeId × Value → H) :
    ReturnsInHanded {} Tryd.checked os 5 .any (fun w args => (Rows.tapeActsSpec.pre enc Tryd.prog Tryd.f5 [] false w args ∧ laidMetH Tryd.prog taLaid w) ∧ sizedMet enc Tryd.prog Tryd.f5 (OpenSpec.ofChange Rows.tapeActsSpec) false w args)
      (Rows.tapeActsSpec.post enc Tryd.prog Tryd.f5 false true false false) := by
  refine handed_shaped (C := Tryd.checked) (X := fun w _ => laidMetH Tryd.prog taLaid w) (fun _ _ _ hh h => h.of_heap hh) ownK started (by kernel_rfl) Tryd.func5
    (ChangeSpec.witness_shaped (enc := enc) (C := Tryd.checked) (os := os) (X := fun w _ => laidMetH Tryd.prog taLaid w) false (World.doorLaid Tryd.prog 400 os) #[.string ⟨#[]⟩, .slice none 0 0] 8 rfl (World.shaped_of_RefB (by kernel_rfl) (by kernel_rfl)) (by kernel_rfl) (by kernel_rfl) (by kernel_rfl) (ta_door os _)) ?_
  intro W base args ds gs before hval0 hW hL hsh
  have hval : ∀ (j : Nat) t v, Tryd.f5.params[j]? = some t → args[j]? = some v → Value.okWide Tryd.prog W .any base t v := hval0
  have hW' := hW
  obtain ⟨p, q, hA0, hV, rfl, hfz, hnd⟩ := hW
  have hA : DataW.TrodAll enc Tryd.prog W 0 (fun _ => true) true Tryd.f5.params.toList args.toList ds p := hA0
  rw [Tryd.params5] at hA hval
  obtain ⟨v0, vs0, d0, ds0, p0, q0, hargs, rfl, rfl, h0, r0⟩ := trodAll_cons hA
  obtain ⟨v1, vs1, d1, ds1, p1, q1, rfl, rfl, rfl, h1, r1⟩ := trodAll_cons r0
  obtain ⟨rfl, rfl, rfl⟩ := trodAll_nil r1
  obtain rfl : args = #[v0, v1] := by cases args; simp_all
  obtain ⟨rfl, rfl⟩ := trodVars_none hV
  obtain ⟨s, rfl⟩ := okWide_string Tryd.underlying9 (hval 0 9 v0 rfl rfl)
  obtain ⟨a1, len1, cap1, rfl⟩ := okWide_slice Tryd.underlying39 (hval 1 39 v1 rfl rfl)
  obtain rfl : p0 = [] := by
    obtain ⟨m2, hm2⟩ := id h0
    obtain ⟨s', es, hx, -⟩ := DataW.trod_string Tryd.underlying9 hm2
    exact congrArg Prod.snd hx
  have k0 := h0
  have k1 := h1
  have lt1 : ∀ x ∈ p1, x.block < W.heap.size := by obtain ⟨m, hm⟩ := k1; exact DataW.trod_lt m _ _ _ hm
  obtain ⟨L, hlen, hw⟩ : ∃ L : List WrD, L.length = len1 ∧ WritesD W a1 L := by
    obtain ⟨fuel, hf⟩ := h1
    exact wrs_of hf
  obtain ⟨hT, hh, E, hE⟩ := tenv_of_ta hsh hL
  clear hA0 hval0
  refine (ta_all E s a1 len1 cap1 L W hw hlen hT hE hh).mono fun e W' ⟨he, bel⟩ => ?_
  subst he
  exact ⟨_, rfl, _, _, _, [], _, [], hW', trodAll_mk1 (shut_bool Tryd.underlying4 _), (trodAll_cons_mk (Below.trod laidOutB' (by kernel_rfl) (of_decide_eq_true (by kernel_rfl)) k0 bel (fun x hx => by simp at hx)) (trodAll_cons_mk (Below.trod laidOutB' (by kernel_rfl) (of_decide_eq_true (by kernel_rfl)) k1 bel lt1) trodAll_mk0)), rfl, bel.frame _, fun h => by cases h⟩

theorem tapeActs_holds : Rows.TapeActsSaid :=
  OpenClaim.holds_of_wide 5 Tryd.f5 rfl rfl rfl rfl rfl rfl rfl ⟨rfl, rfl, rfl, rfl, rfl⟩ rfl rfl rfl rfl rfl (by kernel_rfl) Tryd.func5 (by kernel_rfl)
    (of_decide_eq_true (by kernel_rfl)) (by unfold Func.isWrapper; rw [if_neg (of_decide_eq_false (by kernel_rfl))]; exact ⟨rfl, rfl⟩)
    (fun os started H enc _ => ta_lifted os started H enc)

theorem tapeActs_card : Rows.TapeActsCardSaid :=
  Claim7.holds_tied_plain_at .later [] _ _ _ _
    tapeActs_holds (fun _ h => by cases h) (by kernel_rfl) (fun _ h => by cases h) tapeActs_row_tie rfl ⟨rfl, rfl⟩ (by kernel_rfl) rfl
    (fun f fn hf hfn => by
      obtain rfl : f = 5 := Option.some.inj ((show Tryd.prog.funcNamed "stillroom/stillroomlaw3.TapeActs" = some 5 by kernel_rfl).symm.trans hf) |>.symm
      obtain rfl : fn = Tryd.f5 := (Option.some.inj (Tryd.func5.symm.trans hfn)).symm
      exact ⟨by kernel_rfl, fun j t ht => by
        rw [Tryd.params5] at ht
        rcases j with _ | _ | j
        · obtain rfl : t = 9 := by simpa using ht.symm
          exact (show Tryd.prog.wantsStandIn 9 = false by kernel_rfl)
        · obtain rfl : t = 39 := by simpa using ht.symm
          exact (show Tryd.prog.wantsStandIn 39 = false by kernel_rfl)
        · simp at ht⟩)
    (by kernel_rfl)
#print axioms tapeActs_card
end Go.Proofs.YtpijgncmahbjhaaDoor
