/- What the cards of the paths' statements without error numbers share: the listed variables; arguments that are slices of texts. No condition. -/
import Derived.Test.YthnlaigabefidaaDoorTyK
import Derived.Test.YthnlaigabefidaaDoorTxt
namespace Go.Proofs.YthnlaigabefidaaDoor
open Go.ChangeShapes Go.WideShapes Go.ChangeAt Go.RowKit Go.Deep

/-- The listed sentinels. -/
def ptL : List (String × Nat × List UInt8) := [
  ("stillroom/api.ErrText", 7, [115, 116, 105, 108, 108, 114, 111, 111, 109, 58, 32, 116, 101, 120, 116]),
  ("stillroom/api.ErrBound", 6, [115, 116, 105, 108, 108, 114, 111, 111, 109, 58, 32, 98, 111, 117, 110, 100]),
  ("stillroom/api.ErrShape", 5, [115, 116, 105, 108, 108, 114, 111, 111, 109, 58, 32, 115, 104, 97, 112, 101]),
  ("stillroom/api.ErrKind", 4, [115, 116, 105, 108, 108, 114, 111, 111, 109, 58, 32, 107, 105, 110, 100]),
  ("stillroom/api.ErrName", 0, [115, 116, 105, 108, 108, 114, 111, 111, 109, 58, 32, 110, 97, 109, 101]),
  ("stillroom/api.ErrNone", 1, [115, 116, 105, 108, 108, 114, 111, 111, 109, 58, 32, 110, 111, 110, 101]),
  ("stillroom/api.ErrFull", 3, [115, 116, 105, 108, 108, 114, 111, 111, 109, 58, 32, 102, 117, 108, 108]),
  ("stillroom/api.ErrDeep", 2, [115, 116, 105, 108, 108, 114, 111, 111, 109, 58, 32, 100, 101, 101, 112]),
  ("stillroom/api.ErrOrder", 8, [115, 116, 105, 108, 108, 114, 111, 111, 109, 58, 32, 111, 114, 100, 101, 114])]
set_option maxRecDepth 100000 in
theorem ptL_ok : ∀ x ∈ ptL, Tryd.prog.globalNamed x.1 = some x.2.1 ∧ (Tryd.prog.globals[x.2.1]?).map (·.type) = some 29 := by
  intro x hx
  simp only [ptL, List.mem_cons, List.not_mem_nil, or_false] at hx
  rcases hx with rfl | rfl | rfl | rfl | rfl | rfl | rfl | rfl | rfl <;> exact ⟨by kernel_rfl, by kernel_rfl⟩
def ptLaid : List (String × DataW Unit) := ("unicode/utf8.acceptRanges", Rows.laid_unicode_utf8_acceptRanges) :: ((ptL.map fun x => (x.1, sentD x.2.2)) ++ [("unicode/utf8.first", Rows.laid_unicode_utf8_first)])
set_option maxRecDepth 100000 in
theorem env_of_pt {W : World} (h : laidMetH Tryd.prog ptLaid W) : ∃ E, Env trGs W.heap.size W E := by
  have h' : laidMet Tryd.prog ptLaid W := h
  have h2 := h'.filter (fun x => (ptL.map (·.1)).contains x.1)
  have e2 : ptLaid.filter (fun x => (ptL.map (·.1)).contains x.1) = ptL.map fun x => (x.1, sentD x.2.2) := by kernel_rfl
  rw [e2] at h2
  exact env_of_laid ptL ptL_ok (by decide) h2
set_option maxRecDepth 100000 in
theorem pt_met (os : Os) (args : Array Value) : laidMet Tryd.prog (ptLaid.filter fun x => x.2.handleName?.isNone) ((tsW os).forCall (fun _ _ => 0) ⟨#[], args, []⟩).memory :=
  laidMet_layVars (w0 := World.doorLaid Tryd.prog 400 os) ["unicode/utf8.first"] (tsB os) rfl (by kernel_rfl) (by kernel_rfl) (LaidIn.of_run (tsB os) 8 (by kernel_rfl) (by kernel_rfl) (by kernel_rfl) (by kernel_rfl))
set_option maxRecDepth 100000 in
theorem pt_door (os : Os) (args : Array Value) : laidMetH Tryd.prog ptLaid ((tsW os).forCall (fun _ _ => 0) ⟨#[], args, []⟩).memory :=
  laidMetH_of_parts3 (fuel := 8) (pt_met os args) (by kernel_rfl) (by kernel_rfl)

/-- A slice of texts that is read. -/
theorem strs_of {H : Type} {enc : TypeId × Value → H} {W : World} {base : Nat} {spare : Nat → Bool} {held : Bool} {fuel : Nat} {a : Option Addr} {len cap : Nat} {x : DataW H × List MemPlace}
    (h : DataW.trod enc Tryd.prog W base spare held fuel 34 [.slice a len cap] = some x) : ∃ L : List ByteArray, L.length = len ∧ Sl W (.slice a len cap) (tcells L) L.length 1 := by
  obtain ⟨hc, hm, hx⟩ := elems_of (c := 1) Tryd.underlying34 (by kernel_rfl) (by decide) h
  obtain ⟨L, hl, hp⟩ := list_of_lt (p := fun i (q : ByteArray) => ∃ b off, a = some ⟨b, off, none⟩ ∧ b < W.heap.size ∧ W.cell? ⟨b, off + i, none⟩ = some (.string q)) len (fun i hi => by
    obtain ⟨b, off, n, d, cs, e, hb, hcl, hcell, ht⟩ := hx i hi
    match cs, hcl with
    | [c0], _ =>
      obtain ⟨s0, e0, -⟩ := DataW.trod_string Tryd.underlying9 ht
      simp at e0
      subst e0
      have := hcell 0 (by simp)
      exact ⟨s0, b, off, e, hb, by simpa using this⟩)
  refine ⟨L, hl, a, cap, by rw [hl], by rw [tcells_len]; omega, by omega, hm, ?_⟩
  by_cases h0 : len = 0
  · exact .inl (by omega)
  · right
    obtain ⟨b, off, e, hb, -⟩ := hp 0 (by omega)
    refine ⟨b, off, e, hb, fun j hj => ?_⟩
    rw [tcells_len] at hj
    obtain ⟨b', off', e', -, hcj⟩ := hp j hj
    rw [e] at e'
    simp only [Option.some.injEq, Addr.mk.injEq] at e'
    obtain ⟨rfl, rfl, -⟩ := e'
    rw [hcj]
    simp [tcells]
theorem strs_arg {H : Type} {enc : TypeId × Value → H} {W : World} {base : Nat} {spare : Nat → Bool} {held : Bool} {a : Option Addr} {len cap : Nat} {d : DataW H} {p : List MemPlace}
    (h : DataW.Trod enc Tryd.prog W base spare held 34 (.slice a len cap) d p) : ∃ L : List ByteArray, L.length = len ∧ Sl W (.slice a len cap) (tcells L) L.length 1 := by
  obtain ⟨m, hm⟩ := h
  exact strs_of hm
end Go.Proofs.YthnlaigabefidaaDoor
