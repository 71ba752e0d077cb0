/- stillroomlaw2.DiskStays answers true for every input: the tied card. No condition of its own. -/
import Derived.Test.YtgckmlafpmnekaaDoorDs
import Derived.Test.YtgckmlafpmnekaaDoorArgs
import Derived.Test.YtgckmlafpmnekaaDoorTie
import Derived.Test.YtgckmlafpmnekaaDoorCards
import Derived.SevenTiedAt
namespace Go.Proofs.YtgckmlafpmnekaaDoor
open Go.ChangeShapes Go.WideShapes Go.ChangeAt Go.RowKit Go.Deep

theorem act_of {H : Type} {enc : TypeId × Value → H} {W : World} {base : Nat} {spare : Nat → Bool} {held : Bool} {fuel : Nat} {cs : List Value} {x : DataW H × List MemPlace} (hl : cs.length = 5)
    (h : DataW.trod enc Tryd.prog W base spare held fuel 40 cs = some x) : ∃ (q : Acted) (kv : Value), cs = [.string q.kind, .string q.s, .int .i64 q.k, .int .i64 q.bit, kv] ∧ Sl W kv (icells q.keep) q.keep.length 1 := by
  match cs, hl with
  | [c0, c1, c2, c3, c4], _ =>
    have k1 : Tryd.prog.cellsOf 3 = 1 := by kernel_rfl
    have k2 : Tryd.prog.cellsOf 22 = 1 := by kernel_rfl
    have k3 : Tryd.prog.cellsOf 9 = 1 := by kernel_rfl
    obtain ⟨n0, y0, f0⟩ := field_of Tryd.underlying40 h 0 _ rfl
    obtain ⟨n1, y1, f1⟩ := field_of Tryd.underlying40 h 1 _ rfl
    obtain ⟨n2, y2, f2⟩ := field_of Tryd.underlying40 h 2 _ rfl
    obtain ⟨n3, y3, f3⟩ := field_of Tryd.underlying40 h 3 _ rfl
    obtain ⟨n4, y4, f4⟩ := field_of Tryd.underlying40 h 4 _ rfl
    have g0 : DataW.trod enc Tryd.prog W base spare held n0 9 (([c0, c1, c2, c3, c4].drop 0).take (Tryd.prog.cellsOf 9)) = some y0 := f0
    have g1 : DataW.trod enc Tryd.prog W base spare held n1 9 (([c0, c1, c2, c3, c4].drop 1).take (Tryd.prog.cellsOf 9)) = some y1 := f1
    have g2 : DataW.trod enc Tryd.prog W base spare held n2 3 (([c0, c1, c2, c3, c4].drop 2).take (Tryd.prog.cellsOf 3)) = some y2 := f2
    have g3 : DataW.trod enc Tryd.prog W base spare held n3 3 (([c0, c1, c2, c3, c4].drop 3).take (Tryd.prog.cellsOf 3)) = some y3 := f3
    have g4 : DataW.trod enc Tryd.prog W base spare held n4 22 (([c0, c1, c2, c3, c4].drop 4).take (Tryd.prog.cellsOf 22)) = some y4 := f4
    rw [k3] at g0 g1
    rw [k1] at g2 g3
    rw [k2] at g4
    replace g0 : DataW.trod enc Tryd.prog W base spare held n0 9 [c0] = some y0 := g0
    replace g1 : DataW.trod enc Tryd.prog W base spare held n1 9 [c1] = some y1 := g1
    replace g2 : DataW.trod enc Tryd.prog W base spare held n2 3 [c2] = some y2 := g2
    replace g3 : DataW.trod enc Tryd.prog W base spare held n3 3 [c3] = some y3 := g3
    replace g4 : DataW.trod enc Tryd.prog W base spare held n4 22 [c4] = some y4 := g4
    obtain ⟨s0, e0, -⟩ := DataW.trod_string Tryd.underlying9 g0
    obtain ⟨s1, e1, -⟩ := DataW.trod_string Tryd.underlying9 g1
    obtain ⟨t2, e2, -⟩ := DataW.trod_int Tryd.underlying3 g2
    obtain ⟨t3, e3, -⟩ := DataW.trod_int Tryd.underlying3 g3
    obtain ⟨gv, gl, e4, hs⟩ := ints_of g4
    simp at e0 e1 e2 e3 e4
    subst e0 e1 e2 e3 e4
    exact ⟨⟨s0, s1, t2, t3, gl⟩, _, rfl, hs⟩

theorem acts_of {H : Type} {enc : TypeId × Value → H} {W : World} {base : Nat} {spare : Nat → Bool} {held : Bool} {fuel : Nat} {a : Option Addr} {len cap : Nat} {x : DataW H × List MemPlace}
    (h : DataW.trod enc Tryd.prog W base spare held fuel 35 [.slice a len cap] = some x) : ∃ L : List Acted, L.length = len ∧ Acts W a L := by
  obtain ⟨-, -, hx⟩ := elems_of (c := 5) Tryd.underlying35 (by kernel_rfl) (by decide) h
  obtain ⟨L, hl, hp⟩ := list_of_lt (p := fun i (q : Acted) => ∃ b off kv, a = some ⟨b, off, none⟩ ∧ W.cell? ⟨b, off + i * 5, none⟩ = some (.string q.kind) ∧ W.cell? ⟨b, off + i * 5 + 1, none⟩ = some (.string q.s) ∧ W.cell? ⟨b, off + i * 5 + 2, none⟩ = some (.int .i64 q.k) ∧
    W.cell? ⟨b, off + i * 5 + 3, none⟩ = some (.int .i64 q.bit) ∧ W.cell? ⟨b, off + i * 5 + 4, none⟩ = some kv ∧ Sl W kv (icells q.keep) q.keep.length 1) len (fun i hi => by
    obtain ⟨b, off, n, d, cs, e, -, hc, hcell, ht⟩ := hx i hi
    obtain ⟨q, kv, rfl, hs⟩ := act_of hc ht
    exact ⟨q, b, off, kv, e, hcell 0 (by simp), hcell 1 (by simp), hcell 2 (by simp), hcell 3 (by simp), hcell 4 (by simp), hs⟩)
  exact ⟨L, hl, hp⟩

set_option maxRecDepth 100000 in
set_option maxHeartbeats 1000000 in
theorem ds_guard (n : Int) (a ka : Option Addr) (len cap klen kcap : Nat) (k bit : Int) (w : World) (h : n < 1 ∨ 40 < n ∨ 40 < len ∨ 60 < klen) :
    Calls Tryd.prog 4 #[.int .i64 n, .slice a len cap, .slice ka klen kcap, .int .i64 k, .int .i64 bit] w fun e w' => e = .returned (.bool true) ∧ Below w.heap.size w w' := by
  by_cases h1 : n < 1
  · clear h
    have d1 : decide (n < 1) = true := by simpa using h1
    go_enter Tryd.func4, Tryd.ntmps4
    go_wp2_with fail
    refine (spun_true w).mono ?_
    rintro e w1 ⟨rfl, hb1⟩
    go_wp2_with fail
    go_ret
    exact ⟨rfl, hb1⟩
  · have d1 : decide (n < 1) = false := by simpa using h1
    by_cases h2 : 40 < n
    · clear h
      have d2 : decide (40 < n) = true := by simpa using h2
      go_enter Tryd.func4, Tryd.ntmps4
      go_wp2_with fail
      refine (spun_true w).mono ?_
      rintro e w1 ⟨rfl, hb1⟩
      go_wp2_with fail
      go_ret
      exact ⟨rfl, hb1⟩
    · have d2 : decide (40 < n) = false := by simpa using h2
      by_cases h3 : 40 < len
      · have h3' : (40 : Int) < (len : Int) := by omega
        have d3 : decide ((40 : Int) < (len : Int)) = true := by simp; omega
        have d3' : decide (40 < len) = true := by simp; omega
        clear h
        go_enter Tryd.func4, Tryd.ntmps4
        go_wp2_with fail
        refine (spun_true w).mono ?_
        rintro e w1 ⟨rfl, hb1⟩
        go_wp2_with fail
        go_ret
        exact ⟨rfl, hb1⟩
      · have h4 : 60 < klen := by omega
        have h3' : ¬ (40 : Int) < (len : Int) := by omega
        have d3 : decide ((40 : Int) < (len : Int)) = false := by simp; omega
        have d3' : decide (40 < len) = false := by simp; omega
        have h4' : (60 : Int) < (klen : Int) := by omega
        have d4 : decide ((60 : Int) < (klen : Int)) = true := by simp; omega
        have d4' : decide (60 < klen) = true := by simp; omega
        clear h
        go_enter Tryd.func4, Tryd.ntmps4
        go_wp2_with fail
        refine (spun_true w).mono ?_
        rintro e w1 ⟨rfl, hb1⟩
        go_wp2_with fail
        go_ret
        exact ⟨rfl, hb1⟩

theorem ds_all (n : Int) (a ka : Option Addr) (len cap kcap : Nat) (L : List Acted) (keep : List Int) (k bit : Int) (w : World) (hL : Acts w a L) (hlen : L.length = len) (hk : Sl w (.slice ka keep.length kcap) (icells keep) keep.length 1) (E : Nat → Addr) (henv : Env [1] w.heap.size w E) :
    Calls Tryd.prog 4 #[.int .i64 n, .slice a len cap, .slice ka keep.length kcap, .int .i64 k, .int .i64 bit] w fun e w' => e = .returned (.bool true) ∧ Below w.heap.size w w' := by
  by_cases h : n < 1 ∨ 40 < n ∨ 40 < len ∨ 60 < keep.length
  · exact ds_guard n a ka len cap _ kcap k bit w h
  · obtain ⟨m, rfl⟩ := Int.eq_ofNat_of_zero_le (show 0 ≤ n by omega)
    subst hlen
    exact ds_walk _ (by decide) E m a cap L keep kcap ka k bit w henv (by omega) (by omega) (by omega) (by omega) hL hk

/-- The one listed sentinel. -/
def dsL : List (String × Nat × List UInt8) := [("stillroom/api.ErrBound", 1, [115, 116, 105, 108, 108, 114, 111, 111, 109, 58, 32, 98, 111, 117, 110, 100])]
def dsLaid : List (String × DataW Unit) := dsL.map fun x => (x.1, sentD x.2.2)
theorem env_of_ds {W : World} (h : laidMetH Tryd.prog dsLaid W) : ∃ E, Env [1] W.heap.size W E := by
  have h' : laidMet Tryd.prog (dsL.map fun x => (x.1, sentD x.2.2)) W := h
  exact env_of_laid dsL (fun x hx => by
    simp only [dsL, List.mem_cons, List.not_mem_nil, or_false] at hx
    subst hx
    exact ⟨by kernel_rfl, by kernel_rfl⟩) (by decide) h'

theorem ds_door (os : Os) (args : Array Value) : laidMetH Tryd.prog dsLaid ((World.doorLaid Tryd.prog 400 os).forCall (fun _ _ => 0) ⟨#[], args, []⟩).memory :=
  laidMetH_of_parts3 (fuel := 8) (laidMet_of_run' 8 (by kernel_rfl) (by kernel_rfl)) (by kernel_rfl) (by kernel_rfl)

set_option maxRecDepth 100000 in
theorem ds_lifted (os : Os) (started : os.Started) (H : Type) (enc : TypeId × Value → H) :
    ReturnsInHanded {} Tryd.checked os 4 .any (fun w args => (Rows.diskStaysSpec.pre enc Tryd.prog Tryd.f4 [] false w args ∧ laidMetH Tryd.prog dsLaid w) ∧ sizedMet enc Tryd.prog Tryd.f4 (OpenSpec.ofChange Rows.diskStaysSpec) false w args)
      (Rows.diskStaysSpec.post enc Tryd.prog Tryd.f4 false true false false) := by
  refine returnsInHanded_of_change_and (C := Tryd.checked) (X := fun w _ => laidMetH Tryd.prog dsLaid w) (fun _ _ _ hh h => h.of_heap hh) ownK started (by kernel_rfl) Tryd.func4
    (ChangeSpec.witness_shaped (enc := enc) (C := Tryd.checked) (os := os) (X := fun w _ => laidMetH Tryd.prog dsLaid w) false (World.doorLaid Tryd.prog 400 os) #[.int .i64 0, .slice none 0 0, .slice none 0 0, .int .i64 0, .int .i64 0] 8 rfl (World.shaped_of_RefB (by kernel_rfl) (by kernel_rfl)) (by kernel_rfl) (by kernel_rfl) (by kernel_rfl) (ds_door os _)) ?_
  intro W base args ds gs before hval0 hW _ _ hL _
  have hval : ∀ (j : Nat) t v, Tryd.f4.params[j]? = some t → args[j]? = some v → Value.okWide Tryd.prog W .any base t v := hval0
  have hW' := hW
  obtain ⟨p, q, hA0, hV, rfl, hfz, hnd⟩ := hW
  have hA : DataW.TrodAll enc Tryd.prog W 0 (fun _ => true) true Tryd.f4.params.toList args.toList ds p := hA0
  rw [Tryd.params4] at hA hval
  obtain ⟨v0, vs0, d0, ds0, p0, q0, hargs, rfl, rfl, h0, r0⟩ := trodAll_cons hA
  obtain ⟨v1, vs1, d1, ds1, p1, q1, rfl, rfl, rfl, h1, r1⟩ := trodAll_cons r0
  obtain ⟨v2, vs2, d2, ds2, p2, q2, rfl, rfl, rfl, h2, r2⟩ := trodAll_cons r1
  obtain ⟨v3, vs3, d3, ds3, p3, q3, rfl, rfl, rfl, h3, r3⟩ := trodAll_cons r2
  obtain ⟨v4, vs4, d4, ds4, p4, q4, rfl, rfl, rfl, h4, r4⟩ := trodAll_cons r3
  obtain ⟨rfl, rfl, rfl⟩ := trodAll_nil r4
  obtain rfl : args = #[v0, v1, v2, v3, v4] := by cases args; simp_all
  obtain ⟨rfl, rfl⟩ := trodVars_none hV
  obtain ⟨n, rfl, rfl, rfl, w0⟩ := open_int Tryd.underlying3 (hval 0 3 v0 rfl rfl) h0
  obtain ⟨a1, len1, cap1, rfl⟩ := okWide_slice Tryd.underlying35 (hval 1 35 v1 rfl rfl)
  obtain ⟨a2, len2, cap2, rfl⟩ := okWide_slice Tryd.underlying22 (hval 2 22 v2 rfl rfl)
  obtain ⟨k, rfl, rfl, rfl, w3⟩ := open_int Tryd.underlying3 (hval 3 3 v3 rfl rfl) h3
  obtain ⟨bit, rfl, rfl, rfl, w4⟩ := open_int Tryd.underlying3 (hval 4 3 v4 rfl rfl) h4
  have k1 := h1
  have lt1 : ∀ x ∈ p1, x.block < W.heap.size := by obtain ⟨m, hm⟩ := k1; exact DataW.trod_lt m _ _ _ hm
  have k2 := h2
  have lt2 : ∀ x ∈ p2, x.block < W.heap.size := by obtain ⟨m, hm⟩ := k2; exact DataW.trod_lt m _ _ _ hm
  obtain ⟨L, hlen, hw⟩ : ∃ L : List Acted, L.length = len1 ∧ Acts W a1 L := by
    obtain ⟨fuel, hf⟩ := h1
    exact acts_of hf
  obtain ⟨keep, hkl, hks⟩ : ∃ l : List Int, l.length = len2 ∧ Sl W (.slice a2 len2 cap2) (icells l) l.length 1 := by
    obtain ⟨fuel, hf⟩ := h2
    obtain ⟨v, l, hv, hs⟩ := ints_of hf
    simp [Value.cells] at hv
    subst hv
    obtain ⟨a', cap', he, _⟩ := id hs
    simp only [Value.slice.injEq] at he
    exact ⟨l, he.2.1.symm, hs⟩
  subst hkl
  obtain ⟨E, henv⟩ := env_of_ds hL
  clear hA0 hval0
  refine (ds_all n a1 a2 len1 cap1 cap2 L keep k bit W hw hlen hks E henv).mono fun e W' ⟨he, bel⟩ => ?_
  subst he
  exact ⟨_, rfl, _, _, _, [], _, [], hW', trodAll_mk1 (shut_bool Tryd.underlying4 _), (trodAll_cons_mk (shut_int Tryd.underlying3 w0) (trodAll_cons_mk (Below.trod laidOutB' (by kernel_rfl) (of_decide_eq_true (by kernel_rfl)) k1 bel lt1) (trodAll_cons_mk (Below.trod laidOutB' (by kernel_rfl) (of_decide_eq_true (by kernel_rfl)) k2 bel lt2) (trodAll_cons_mk (shut_int Tryd.underlying3 w3) (trodAll_cons_mk (shut_int Tryd.underlying3 w4) trodAll_mk0))))), rfl, bel.frame _, fun h => by cases h⟩

theorem diskStays_holds : Rows.DiskStaysSaid :=
  OpenClaim.holds_of_wide 4 Tryd.f4 rfl rfl rfl rfl rfl rfl rfl ⟨rfl, rfl, rfl, rfl, rfl⟩ rfl rfl rfl rfl rfl (by kernel_rfl) Tryd.func4 (by kernel_rfl)
    (of_decide_eq_true (by kernel_rfl)) (by unfold Func.isWrapper; rw [if_neg (of_decide_eq_false (by kernel_rfl))]; exact ⟨rfl, rfl⟩)
    (fun os started H enc _ => ds_lifted os started H enc)

theorem diskStays_card : Rows.DiskStaysCardSaid :=
  Claim7.holds_tied_plain_at .later [] _ _ _ _
    diskStays_holds (fun _ h => by cases h) (by kernel_rfl) (fun _ h => by cases h) diskStays_row_tie rfl ⟨rfl, rfl⟩ (by kernel_rfl) rfl
    (fun f fn hf hfn => by
      obtain rfl : f = 4 := Option.some.inj ((show Tryd.prog.funcNamed "stillroom/stillroomlaw2.DiskStays" = some 4 by kernel_rfl).symm.trans hf) |>.symm
      obtain rfl : fn = Tryd.f4 := (Option.some.inj (Tryd.func4.symm.trans hfn)).symm
      exact ⟨by kernel_rfl, fun j t ht => by
        rw [Tryd.params4] at ht
        rcases j with _ | _ | _ | _ | _ | j
        · obtain rfl : t = 3 := by simpa using ht.symm
          exact (show Tryd.prog.wantsStandIn 3 = false by kernel_rfl)
        · obtain rfl : t = 35 := by simpa using ht.symm
          exact (show Tryd.prog.wantsStandIn 35 = false by kernel_rfl)
        · obtain rfl : t = 22 := by simpa using ht.symm
          exact (show Tryd.prog.wantsStandIn 22 = false by kernel_rfl)
        · obtain rfl : t = 3 := by simpa using ht.symm
          exact (show Tryd.prog.wantsStandIn 3 = false by kernel_rfl)
        · obtain rfl : t = 3 := by simpa using ht.symm
          exact (show Tryd.prog.wantsStandIn 3 = false by kernel_rfl)
        · simp at ht⟩)
    (by kernel_rfl)
#print axioms diskStays_card
end Go.Proofs.YtgckmlafpmnekaaDoor
