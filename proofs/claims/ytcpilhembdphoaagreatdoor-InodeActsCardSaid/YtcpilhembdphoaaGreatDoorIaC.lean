/- stillroomlaw2.InodeActs answers true for every input: the tied card. No condition of its own. -/
import Derived.Test.YtcpilhembdphoaaGreatDoorIaG
import Derived.Test.YtcpilhembdphoaaGreatDoorArgs
import Derived.Test.YtcpilhembdphoaaGreatDoorFrame
import Derived.Test.YtcpilhembdphoaaGreatDoorTie
import Derived.Test.YtcpilhembdphoaaGreatDoorCards
import Derived.SevenTiedAt
namespace Go.Proofs.YtcpilhembdphoaaGreatDoor
open Go.ChangeShapes Go.WideShapes Go.ChangeAt Go.RowKit Go.Deep

theorem fact_of {H : Type} {enc : TypeId × Value → H} {W : World} {base : Nat} {spare : Nat → Bool} {held : Bool} {fuel : Nat} {cs : List Value} {x : DataW H × List MemPlace} (hl : cs.length = 5)
    (h : DataW.trod enc Tryz.prog W base spare held fuel 50 cs = some x) : ∃ q : Filed, cs = [.string q.kind, .string q.s, .bool q.ex, .int .i64 q.n, .int .i64 q.bit] ∧ -9223372036854775808 ≤ q.n ∧ q.n ≤ 9223372036854775807 := by
  match cs, hl with
  | [c0, c1, c2, c3, c4], _ =>
    have k1 : Tryz.prog.cellsOf 3 = 1 := by kernel_rfl
    have k2 : Tryz.prog.cellsOf 4 = 1 := by kernel_rfl
    have k3 : Tryz.prog.cellsOf 9 = 1 := by kernel_rfl
    obtain ⟨n0, y0, f0⟩ := field_of Tryz.underlying50 h 0 _ rfl
    obtain ⟨n1, y1, f1⟩ := field_of Tryz.underlying50 h 1 _ rfl
    obtain ⟨n2, y2, f2⟩ := field_of Tryz.underlying50 h 2 _ rfl
    obtain ⟨n3, y3, f3⟩ := field_of Tryz.underlying50 h 3 _ rfl
    obtain ⟨n4, y4, f4⟩ := field_of Tryz.underlying50 h 4 _ rfl
    have g0 : DataW.trod enc Tryz.prog W base spare held n0 9 (([c0, c1, c2, c3, c4].drop 0).take (Tryz.prog.cellsOf 9)) = some y0 := f0
    have g1 : DataW.trod enc Tryz.prog W base spare held n1 9 (([c0, c1, c2, c3, c4].drop 1).take (Tryz.prog.cellsOf 9)) = some y1 := f1
    have g2 : DataW.trod enc Tryz.prog W base spare held n2 4 (([c0, c1, c2, c3, c4].drop 2).take (Tryz.prog.cellsOf 4)) = some y2 := f2
    have g3 : DataW.trod enc Tryz.prog W base spare held n3 3 (([c0, c1, c2, c3, c4].drop 3).take (Tryz.prog.cellsOf 3)) = some y3 := f3
    have g4 : DataW.trod enc Tryz.prog W base spare held n4 3 (([c0, c1, c2, c3, c4].drop 4).take (Tryz.prog.cellsOf 3)) = some y4 := f4
    rw [k3] at g0 g1
    rw [k2] at g2
    rw [k1] at g3 g4
    replace g0 : DataW.trod enc Tryz.prog W base spare held n0 9 [c0] = some y0 := g0
    replace g1 : DataW.trod enc Tryz.prog W base spare held n1 9 [c1] = some y1 := g1
    replace g2 : DataW.trod enc Tryz.prog W base spare held n2 4 [c2] = some y2 := g2
    replace g3 : DataW.trod enc Tryz.prog W base spare held n3 3 [c3] = some y3 := g3
    replace g4 : DataW.trod enc Tryz.prog W base spare held n4 3 [c4] = some y4 := g4
    obtain ⟨s0, e0, -⟩ := DataW.trod_string Tryz.underlying9 g0
    obtain ⟨s1, e1, -⟩ := DataW.trod_string Tryz.underlying9 g1
    obtain ⟨t2, e2, -⟩ := DataW.trod_bool Tryz.underlying4 g2
    obtain ⟨t3, e3, -, hw⟩ := DataW.trod_int Tryz.underlying3 g3
    obtain ⟨t4, e4, -⟩ := DataW.trod_int Tryz.underlying3 g4
    simp at e0 e1 e2 e3 e4
    subst e0 e1 e2 e3 e4
    have hw2 : -9223372036854775808 ≤ t3 ∧ t3 ≤ 9223372036854775807 := by simp [Lit.wf, IntKind.min, IntKind.max, IntKind.signed, IntKind.bits] at hw; omega
    exact ⟨⟨s0, s1, t2, t3, t4⟩, rfl, hw2.1, hw2.2⟩

theorem facts_of {H : Type} {enc : TypeId × Value → H} {W : World} {base : Nat} {spare : Nat → Bool} {held : Bool} {fuel : Nat} {a : Option Addr} {len cap : Nat} {x : DataW H × List MemPlace}
    (h : DataW.trod enc Tryz.prog W base spare held fuel 47 [.slice a len cap] = some x) : ∃ L : List Filed, L.length = len ∧ FActs W a L := by
  obtain ⟨-, -, hx⟩ := elems_of (c := 5) Tryz.underlying47 (by kernel_rfl) (by decide) h
  obtain ⟨L, hl, hp⟩ := list_of_lt (p := fun i (q : Filed) => ∃ b off, a = some ⟨b, off, none⟩ ∧ W.cell? ⟨b, off + i * 5, none⟩ = some (.string q.kind) ∧ W.cell? ⟨b, off + i * 5 + 1, none⟩ = some (.string q.s) ∧ W.cell? ⟨b, off + i * 5 + 2, none⟩ = some (.bool q.ex) ∧
    W.cell? ⟨b, off + i * 5 + 3, none⟩ = some (.int .i64 q.n) ∧ W.cell? ⟨b, off + i * 5 + 4, none⟩ = some (.int .i64 q.bit) ∧ -9223372036854775808 ≤ q.n ∧ q.n ≤ 9223372036854775807) len (fun i hi => by
    obtain ⟨b, off, n, d, cs, e, -, hc, hcell, ht⟩ := hx i hi
    obtain ⟨q, rfl, hs⟩ := fact_of hc ht
    exact ⟨q, b, off, e, hcell 0 (by simp), hcell 1 (by simp), hcell 2 (by simp), hcell 3 (by simp), hcell 4 (by simp), hs⟩)
  exact ⟨L, hl, hp⟩

theorem ia_door (os : Os) (args : Array Value) : laidMetH Tryz.prog laidAll ((World.doorLaid Tryz.prog 400 os).forCall (fun _ _ => 0) ⟨#[], args, []⟩).memory :=
  laidMetH_of_parts3 (fuel := 8) (laidMet_of_run' 8 (by kernel_rfl) (by kernel_rfl)) (by kernel_rfl) (by kernel_rfl)

set_option maxRecDepth 100000 in
theorem ia_lifted (os : Os) (started : os.Started) (H : Type) (enc : TypeId × Value → H) :
    ReturnsInHanded {} Tryz.checked os 4 .any (fun w args => (Rows.inodeActsSpec.pre enc Tryz.prog Tryz.f4 [] false w args ∧ laidMetH Tryz.prog laidAll w) ∧ sizedMet enc Tryz.prog Tryz.f4 (OpenSpec.ofChange Rows.inodeActsSpec) false w args)
      (Rows.inodeActsSpec.post enc Tryz.prog Tryz.f4 false true false false) := by
  refine returnsInHanded_of_change_and (C := Tryz.checked) (X := fun w _ => laidMetH Tryz.prog laidAll w) (fun _ _ _ hh h => h.of_heap hh) ownK started (by kernel_rfl) Tryz.func4
    (ChangeSpec.witness_shaped (enc := enc) (C := Tryz.checked) (os := os) (X := fun w _ => laidMetH Tryz.prog laidAll w) false (World.doorLaid Tryz.prog 400 os) #[.int .i64 0, .slice none 0 0, .int .i64 0] 8 rfl (World.shaped_of_RefB (by kernel_rfl) (by kernel_rfl)) (by kernel_rfl) (by kernel_rfl) (by kernel_rfl) (ia_door os _)) ?_
  intro W base args ds gs before hval0 hW _ _ hL _
  have hval : ∀ (j : Nat) t v, Tryz.f4.params[j]? = some t → args[j]? = some v → Value.okWide Tryz.prog W .any base t v := hval0
  have hW' := hW
  obtain ⟨p, q, hA0, hV, rfl, hfz, hnd⟩ := hW
  have hA : DataW.TrodAll enc Tryz.prog W 0 (fun _ => true) true Tryz.f4.params.toList args.toList ds p := hA0
  rw [Tryz.params4] at hA hval
  obtain ⟨v0, vs0, d0, ds0, p0, q0, hargs, rfl, rfl, h0, r0⟩ := trodAll_cons hA
  obtain ⟨v1, vs1, d1, ds1, p1, q1, rfl, rfl, rfl, h1, r1⟩ := trodAll_cons r0
  obtain ⟨v2, vs2, d2, ds2, p2, q2, rfl, rfl, rfl, h2, r2⟩ := trodAll_cons r1
  obtain ⟨rfl, rfl, rfl⟩ := trodAll_nil r2
  obtain rfl : args = #[v0, v1, v2] := by cases args; simp_all
  obtain ⟨rfl, rfl⟩ := trodVars_none hV
  obtain ⟨n0, rfl, rfl, rfl, w0⟩ := open_int Tryz.underlying3 (hval 0 3 v0 rfl rfl) h0
  obtain ⟨a1, len1, cap1, rfl⟩ := okWide_slice Tryz.underlying47 (hval 1 47 v1 rfl rfl)
  obtain ⟨n, rfl, rfl, rfl, w2⟩ := open_int Tryz.underlying3 (hval 2 3 v2 rfl rfl) h2
  have k1 := h1
  have lt1 : ∀ x ∈ p1, x.block < W.heap.size := by obtain ⟨m, hm⟩ := k1; exact DataW.trod_lt m _ _ _ hm
  obtain ⟨L, hlen, hw⟩ : ∃ L : List Filed, L.length = len1 ∧ FActs W a1 L := by
    obtain ⟨fuel, hf⟩ := h1
    exact facts_of hf
  subst hlen
  have hn : -9223372036854775808 ≤ n ∧ n ≤ 9223372036854775807 := by
    have := w2
    simp [Lit.wf, IntKind.min, IntKind.max, IntKind.signed, IntKind.bits] at this
    omega
  obtain ⟨hh, E, henv⟩ := env_of_all hL
  clear hA0 hval0
  refine (inodeActs_true E W.heap.size n0 a1 cap1 L n W hw henv hh hn).mono fun e W' ⟨he, bel⟩ => ?_
  subst he
  exact ⟨_, rfl, _, _, _, [], _, [], hW', trodAll_mk1 (shut_bool Tryz.underlying4 _), (trodAll_cons_mk (shut_int Tryz.underlying3 w0) (trodAll_cons_mk (Below.trod laidOutB' (by kernel_rfl) (of_decide_eq_true (by kernel_rfl)) k1 bel lt1) (trodAll_cons_mk (shut_int Tryz.underlying3 w2) trodAll_mk0))), rfl, bel.frame _, fun h => by cases h⟩

theorem inodeActs_holds : Rows.InodeActsSaid :=
  OpenClaim.holds_of_wide 4 Tryz.f4 rfl rfl rfl rfl rfl rfl rfl ⟨rfl, rfl, rfl, rfl, rfl⟩ rfl rfl rfl rfl rfl (by kernel_rfl) Tryz.func4 (by kernel_rfl)
    (of_decide_eq_true (by kernel_rfl)) (by unfold Func.isWrapper; rw [if_neg (of_decide_eq_false (by kernel_rfl))]; exact ⟨rfl, rfl⟩)
    (fun os started H enc _ => ia_lifted os started H enc)

theorem inodeActs_card : Rows.InodeActsCardSaid :=
  Claim7.holds_tied_plain_at .later [] _ _ _ _
    inodeActs_holds (fun _ h => by cases h) (by kernel_rfl) (fun _ h => by cases h) inodeActs_row_tie rfl ⟨rfl, rfl⟩ (by kernel_rfl) rfl
    (fun f fn hf hfn => by
      obtain rfl : f = 4 := Option.some.inj ((show Tryz.prog.funcNamed "stillroom/stillroomlaw2.InodeActs" = some 4 by kernel_rfl).symm.trans hf) |>.symm
      obtain rfl : fn = Tryz.f4 := (Option.some.inj (Tryz.func4.symm.trans hfn)).symm
      exact ⟨by kernel_rfl, fun j t ht => by
        rw [Tryz.params4] at ht
        rcases j with _ | _ | _ | j
        · obtain rfl : t = 3 := by simpa using ht.symm
          exact (show Tryz.prog.wantsStandIn 3 = false by kernel_rfl)
        · obtain rfl : t = 47 := by simpa using ht.symm
          exact (show Tryz.prog.wantsStandIn 47 = false by kernel_rfl)
        · obtain rfl : t = 3 := by simpa using ht.symm
          exact (show Tryz.prog.wantsStandIn 3 = false by kernel_rfl)
        · simp at ht⟩)
    (by kernel_rfl)
#print axioms inodeActs_card
end Go.Proofs.YtcpilhembdphoaaGreatDoor
