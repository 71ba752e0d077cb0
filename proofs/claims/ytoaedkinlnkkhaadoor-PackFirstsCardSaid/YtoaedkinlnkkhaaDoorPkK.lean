/- What the cards of the packs' statements share: the listed variables. No condition. -/
import Derived.Test.YtoaedkinlnkkhaaDoorTyK
import Derived.Test.YtoaedkinlnkkhaaDoorNu
namespace Go.Proofs.YtoaedkinlnkkhaaDoor
open Go.ChangeShapes Go.WideShapes Go.ChangeAt Go.RowKit Go.Deep

/-- The listed sentinels of the program. -/
def sent8 : List (String × Nat × List UInt8) := [
  ("stillroom/api.ErrText", 2, [115, 116, 105, 108, 108, 114, 111, 111, 109, 58, 32, 116, 101, 120, 116]),
  ("stillroom/api.ErrBound", 1, [115, 116, 105, 108, 108, 114, 111, 111, 109, 58, 32, 98, 111, 117, 110, 100]),
  ("stillroom/api.ErrShape", 4, [115, 116, 105, 108, 108, 114, 111, 111, 109, 58, 32, 115, 104, 97, 112, 101]),
  ("stillroom/api.ErrKind", 5, [115, 116, 105, 108, 108, 114, 111, 111, 109, 58, 32, 107, 105, 110, 100]),
  ("stillroom/api.ErrName", 8, [115, 116, 105, 108, 108, 114, 111, 111, 109, 58, 32, 110, 97, 109, 101]),
  ("stillroom/api.ErrFull", 7, [115, 116, 105, 108, 108, 114, 111, 111, 109, 58, 32, 102, 117, 108, 108]),
  ("stillroom/api.ErrDeep", 6, [115, 116, 105, 108, 108, 114, 111, 111, 109, 58, 32, 100, 101, 101, 112]),
  ("stillroom/api.ErrOrder", 9, [115, 116, 105, 108, 108, 114, 111, 111, 109, 58, 32, 111, 114, 100, 101, 114])]
/-- The two sentinels of the library. -/
def scL : List (String × Nat × List UInt8) := [
  ("strconv.ErrRange", 17, [118, 97, 108, 117, 101, 32, 111, 117, 116, 32, 111, 102, 32, 114, 97, 110, 103, 101]),
  ("strconv.ErrSyntax", 16, [105, 110, 118, 97, 108, 105, 100, 32, 115, 121, 110, 116, 97, 120])]
def pkL : List (String × Nat × List UInt8) := sent8 ++ scL
set_option maxRecDepth 100000 in
theorem pkL_ok : ∀ x ∈ pkL, Tryd.prog.globalNamed x.1 = some x.2.1 ∧ (Tryd.prog.globals[x.2.1]?).map (·.type) = some 30 := by
  intro x hx
  rcases List.mem_append.1 hx with hx | hx
  · simp only [sent8, List.mem_cons, List.not_mem_nil, or_false] at hx
    rcases hx with rfl | rfl | rfl | rfl | rfl | rfl | rfl | rfl <;> exact ⟨by kernel_rfl, by kernel_rfl⟩
  · simp only [scL, List.mem_cons, List.not_mem_nil, or_false] at hx
    rcases hx with rfl | rfl <;> exact ⟨by kernel_rfl, by kernel_rfl⟩
/-- The listed variables of the packs' statements. -/
def pkLaid : List (String × DataW Unit) := ("math/bits.deBruijn32tab", Rows.laid_math_bits_deBruijn32tab) :: ("math/bits.deBruijn64tab", Rows.laid_math_bits_deBruijn64tab) :: ("internal/strconv.uint64pow10", Rows.laid_internal_strconv_uint64pow10) :: ("unicode/utf8.acceptRanges", Rows.laid_unicode_utf8_acceptRanges) ::
  ((pkL.map fun x => (x.1, sentD x.2.2)) ++ [("unicode/utf8.first", Rows.laid_unicode_utf8_first)])
set_option maxRecDepth 100000 in
theorem env_of_pk {W : World} (hs : W.ShapedOpen Tryd.prog) (h : laidMetH Tryd.prog pkLaid W) : TEnv W ∧ ∃ E, Env trGs W.heap.size W E := by
  have h1 := h.filter (fun x => x.1 == "internal/strconv.uint64pow10")
  have h2 := h.filter (fun x => (pkL.map (·.1)).contains x.1)
  have e1 : pkLaid.filter (fun x => x.1 == "internal/strconv.uint64pow10") = [("internal/strconv.uint64pow10", Rows.laid_internal_strconv_uint64pow10)] := by kernel_rfl
  have e2 : pkLaid.filter (fun x => (pkL.map (·.1)).contains x.1) = pkL.map fun x => (x.1, sentD x.2.2) := by kernel_rfl
  rw [e1] at h1
  rw [e2] at h2
  have h1' : laidMet Tryd.prog [("internal/strconv.uint64pow10", Rows.laid_internal_strconv_uint64pow10)] W := h1
  have h2' : laidMet Tryd.prog (pkL.map fun x => (x.1, sentD x.2.2)) W := h2
  obtain ⟨E, hE⟩ := env_of_laid pkL pkL_ok (by decide) h2'
  exact ⟨⟨Lib.tabIs_of_head (g := 11) (t := 149) (e := 135) (n := 20) (by kernel_rfl) (by kernel_rfl) Tryd.underlying149 Tryd.underlying135 (by kernel_rfl) (by kernel_rfl) h1', Tryd.laysM145.s1_3 W hs, ⟨_, _, hE.cell 16 (by decide)⟩, ⟨_, _, hE.cell 17 (by decide)⟩⟩,
    E, hE.sub (by decide)⟩
set_option maxRecDepth 100000 in
theorem pk_met (os : Os) (args : Array Value) : laidMet Tryd.prog (pkLaid.filter fun x => x.2.handleName?.isNone) ((tsW os).forCall (fun _ _ => 0) ⟨#[], args, []⟩).memory :=
  laidMet_layVars (w0 := World.doorLaid Tryd.prog 400 os) ["unicode/utf8.first"] (tsB os) rfl (by kernel_rfl) (by kernel_rfl) (LaidIn.of_run (tsB os) 8 (by kernel_rfl) (by kernel_rfl) (by kernel_rfl) (by kernel_rfl))
set_option maxRecDepth 100000 in
theorem pk_door (os : Os) (args : Array Value) : laidMetH Tryd.prog pkLaid ((tsW os).forCall (fun _ _ => 0) ⟨#[], args, []⟩).memory :=
  laidMetH_of_parts3 (fuel := 8) (pk_met os args) (by kernel_rfl) (by kernel_rfl)
end Go.Proofs.YtoaedkinlnkkhaaDoor
