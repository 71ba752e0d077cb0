/- What the tape statements' conditions on the listed variables give the walks; arguments that are slices of texts. No condition of its own. -/
import Derived.Test.YtpijgncmahbjhaaDoorTp
import Derived.Test.YtpijgncmahbjhaaDoorTxt
import Derived.Test.YtpijgncmahbjhaaDoorArgs
import Derived.LaidSub
import Derived.HandedShaped
namespace Go.Proofs.YtpijgncmahbjhaaDoor
open Go.ChangeShapes Go.WideShapes Go.ChangeAt Go.RowKit Go.Deep

/-- The row's proof out of a walk that is told the listed variables and the world's shape. -/
theorem handed_shaped {H : Type} {enc : TypeId × Value → H} {C : Checked} {os : Os} {f : FuncId} {fn : Func} {s : ChangeSpec} {conds : List PathCond} {apart fresh handsOn again : Bool} {X : World → Array Value → Prop}
    (hX : ∀ (w w' : World) (args : Array Value), w.heap = w'.heap → X w args → X w' args) (own : ownKnob C.prog.godebug = none) (started : os.Started) (noInit : C.prog.inits.idxOf? f = none) (hfn : C.prog.funcs[f]? = some fn)
    (witness : ∃ (w : World) (tape : Tape) (i : Input), w.os = os ∧ (w.forCall tape i).Shaped C.prog ∧ i.vars = [] ∧ Input.okWide C.prog (w.forCall tape i) .any w.heap.size f i ∧
      ((s.pre enc C.prog fn conds apart (w.forCall tape i).memory i.args ∧ X (w.forCall tape i).memory i.args) ∧ sizedMet enc C.prog fn (OpenSpec.ofChange s) apart (w.forCall tape i).memory i.args) ∧ Assume.holds {} C.prog (lone (Frame.enter C.prog f i.args .normal) [] (w.forCall tape i)))
    (contract : ∀ (W : World) (base : Nat) (args : Array Value) (ds gs : List (DataW H)) (before : List MemPlace),
      (∀ (j : Nat) t v, fn.params[j]? = some t → args[j]? = some v → Value.okWide C.prog W .any base t v) →
      DataW.Whole enc C.prog fn.params.toList s.vars apart W args.toList ds gs before → X W args → W.ShapedOpen C.prog →
      Calls C.prog f args W fun e W' => ∃ v, e = .returned v ∧ s.post enc C.prog fn apart fresh handsOn again W args v W') :
    ReturnsInHanded {} C os f .any (fun w args => (s.pre enc C.prog fn conds apart w args ∧ X w args) ∧ sizedMet enc C.prog fn (OpenSpec.ofChange s) apart w args) (s.post enc C.prog fn apart fresh handsOn again) := by
  refine returnsInHanded_of_calls own started noInit witness ?_
  intro w tape i _ hsh _ hok hpre _
  obtain ⟨_, _, _, fn', hfn', _, _, _, _, hval⟩ := hok
  obtain rfl : fn' = fn := Option.some.inj (hfn'.symm.trans hfn)
  obtain ⟨⟨⟨ds, gs, before, hw, -⟩, hx⟩, -⟩ := hpre
  refine (contract (w.forCall tape i) w.heap.size i.args ds gs before hval (DataW.Whole.of_heap (w' := w.forCall tape i) (by rfl) hw) (hX _ _ _ (by rfl) hx) hsh).mono fun e W' ⟨v, he, hp⟩ => ?_
  subst he
  exact ChangeSpec.post_blind hp

/-- A slice of texts that is read. -/
theorem strs_of {H : Type} {enc : TypeId × Value → H} {W : World} {base : Nat} {spare : Nat → Bool} {held : Bool} {fuel : Nat} {a : Option Addr} {len cap : Nat} {x : DataW H × List MemPlace}
    (h : DataW.trod enc Tryd.prog W base spare held fuel 22 [.slice a len cap] = some x) : ∃ L : List ByteArray, L.length = len ∧ Sl W (.slice a len cap) (tcells L) L.length 1 := by
  obtain ⟨hc, hm, hx⟩ := elems_of (c := 1) Tryd.underlying22 (by kernel_rfl) (by decide) h
  obtain ⟨L, hl, hp⟩ := list_of_lt (p := fun i (q : ByteArray) => ∃ b off, a = some ⟨b, off, none⟩ ∧ b < W.heap.size ∧ W.cell? ⟨b, off + i, none⟩ = some (.string q)) len (fun i hi => by
    obtain ⟨b, off, n, d, cs, e, hb, hcl, hcell, ht⟩ := hx i hi
    match cs, hcl with
    | [c0], _ =>
      obtain ⟨s0, e0, -⟩ := DataW.trod_string Tryd.underlying9 ht
      simp at e0
      subst e0
      have := hcell 0 (by simp)
      exact ⟨s0, b, off, e, hb, by simpa using this⟩)
  refine ⟨L, hl, a, cap, by rw [hl], by rw [tcells_len]; omega, by omega, hm, ?_⟩
  by_cases h0 : len = 0
  · exact .inl (by omega)
  · right
    obtain ⟨b, off, e, hb, -⟩ := hp 0 (by omega)
    refine ⟨b, off, e, hb, fun j hj => ?_⟩
    rw [tcells_len] at hj
    obtain ⟨b', off', e', -, hcj⟩ := hp j hj
    rw [e] at e'
    simp only [Option.some.injEq, Addr.mk.injEq] at e'
    obtain ⟨rfl, rfl, -⟩ := e'
    rw [hcj]
    simp [tcells]

/-- The listed sentinels of the tape's statements: name, variable, text. -/
def tpL : List (String × Nat × List UInt8) := [
  ("stillroom/api.ErrBound", 0, [115, 116, 105, 108, 108, 114, 111, 111, 109, 58, 32, 98, 111, 117, 110, 100]),
  ("stillroom/api.ErrShape", 1, [115, 116, 105, 108, 108, 114, 111, 111, 109, 58, 32, 115, 104, 97, 112, 101]),
  ("stillroom/api.ErrFull", 2, [115, 116, 105, 108, 108, 114, 111, 111, 109, 58, 32, 102, 117, 108, 108]),
  ("stillroom/api.ErrOff", 3, [115, 116, 105, 108, 108, 114, 111, 111, 109, 58, 32, 111, 102, 102]),
  ("strconv.ErrRange", 16, [118, 97, 108, 117, 101, 32, 111, 117, 116, 32, 111, 102, 32, 114, 97, 110, 103, 101]),
  ("strconv.ErrSyntax", 15, [105, 110, 118, 97, 108, 105, 100, 32, 115, 121, 110, 116, 97, 120])]
def tpG : List Nat := tpL.map (·.2.1)

set_option maxRecDepth 100000 in
theorem tpL_ok : ∀ x ∈ tpL, Tryd.prog.globalNamed x.1 = some x.2.1 ∧ (Tryd.prog.globals[x.2.1]?).map (·.type) = some 26 := by
  intro x hx
  simp only [tpL, List.mem_cons, List.not_mem_nil, or_false] at hx
  rcases hx with rfl | rfl | rfl | rfl | rfl | rfl <;> exact ⟨by kernel_rfl, by kernel_rfl⟩

/-- The listed variables of the two statements without error numbers. -/
def tpLaid : List (String × DataW Unit) := ("math/bits.deBruijn32tab", Rows.laid_math_bits_deBruijn32tab) :: ("math/bits.deBruijn64tab", Rows.laid_math_bits_deBruijn64tab) :: ("internal/strconv.uint64pow10", Rows.laid_internal_strconv_uint64pow10) :: tpL.map fun x => (x.1, sentD x.2.2)

theorem tenv_of {W : World} (hs : W.ShapedOpen Tryd.prog) (h1 : laidMet Tryd.prog [("internal/strconv.uint64pow10", Rows.laid_internal_strconv_uint64pow10)] W) (h2 : laidMet Tryd.prog (tpL.map fun x => (x.1, sentD x.2.2)) W) :
    TEnv W ∧ ∃ E, Env tpG W.heap.size W E := by
  obtain ⟨E, hE⟩ := env_of_laid tpL tpL_ok (by decide) h2
  refine ⟨⟨Lib.tabIs_of_head (g := 17) (t := 123) (e := 111) (n := 20) (by kernel_rfl) (by kernel_rfl) Tryd.underlying123 Tryd.underlying111 (by kernel_rfl) (by kernel_rfl) h1, Tryd.laysM145.s1_3 W hs, ⟨_, _, hE.cell 15 (by decide)⟩, ⟨_, _, hE.cell 16 (by decide)⟩⟩, E, hE⟩

theorem tenv_of_tp {W : World} (hs : W.ShapedOpen Tryd.prog) (h : laidMetH Tryd.prog tpLaid W) : TEnv W ∧ ∃ E, Env tpG W.heap.size W E := by
  have h' : laidMet Tryd.prog tpLaid W := h
  have h1 := h'.filter (fun x => x.1 == "internal/strconv.uint64pow10")
  have h2 := h'.filter (fun x => (tpL.map (·.1)).contains x.1)
  have e1 : tpLaid.filter (fun x => x.1 == "internal/strconv.uint64pow10") = [("internal/strconv.uint64pow10", Rows.laid_internal_strconv_uint64pow10)] := by kernel_rfl
  have e2 : tpLaid.filter (fun x => (tpL.map (·.1)).contains x.1) = tpL.map fun x => (x.1, sentD x.2.2) := by kernel_rfl
  rw [e1] at h1
  rw [e2] at h2
  exact tenv_of hs h1 h2
end Go.Proofs.YtpijgncmahbjhaaDoor
