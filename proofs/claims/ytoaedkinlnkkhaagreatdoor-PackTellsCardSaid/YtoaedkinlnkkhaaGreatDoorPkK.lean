/- What the cards of the packs' statements share: the listed variables. No condition. -/
import Derived.Test.YtoaedkinlnkkhaaGreatDoorTyK
import Derived.Test.YtoaedkinlnkkhaaGreatDoorNu
namespace Go.Proofs.YtoaedkinlnkkhaaGreatDoor
open Go.ChangeShapes Go.WideShapes Go.ChangeAt Go.RowKit Go.Deep

/-- The two sentinels of the library. -/
def scL : List (String × Nat × List UInt8) := [
  ("strconv.ErrRange", 19, [118, 97, 108, 117, 101, 32, 111, 117, 116, 32, 111, 102, 32, 114, 97, 110, 103, 101]),
  ("strconv.ErrSyntax", 18, [105, 110, 118, 97, 108, 105, 100, 32, 115, 121, 110, 116, 97, 120])]
def pkL : List (String × Nat × List UInt8) := sentL ++ scL
set_option maxRecDepth 100000 in
theorem pkL_ok : ∀ x ∈ pkL, Tryz.prog.globalNamed x.1 = some x.2.1 ∧ (Tryz.prog.globals[x.2.1]?).map (·.type) = some 30 := by
  intro x hx
  rcases List.mem_append.1 hx with hx | hx
  · exact sentL_ok x hx
  · simp only [scL, List.mem_cons, List.not_mem_nil, or_false] at hx
    rcases hx with rfl | rfl <;> exact ⟨by kernel_rfl, by kernel_rfl⟩
/-- The listed variables of the packs' statements. -/
def pkLaid : List (String × DataW Unit) := ("math/bits.deBruijn32tab", Rows.laid_math_bits_deBruijn32tab) :: ("math/bits.deBruijn64tab", Rows.laid_math_bits_deBruijn64tab) :: ("internal/strconv.uint64pow10", Rows.laid_internal_strconv_uint64pow10) :: ("unicode/utf8.acceptRanges", Rows.laid_unicode_utf8_acceptRanges) ::
  ("errors.errorType", hndD) ::
  ((pkL.map fun x => (x.1, sentD x.2.2)) ++ [("unicode/utf8.first", Rows.laid_unicode_utf8_first)])
set_option maxRecDepth 100000 in
theorem env_of_pk {W : World} (hs : W.ShapedOpen Tryz.prog) (h : laidMetH Tryz.prog pkLaid W) : TEnv W ∧ Hnd W ∧ ∃ E, Env codeGs W.heap.size W E := by
  have h1 := h.filter (fun x => x.1 == "internal/strconv.uint64pow10")
  have h2 := h.filter (fun x => (pkL.map (·.1)).contains x.1)
  have e1 : pkLaid.filter (fun x => x.1 == "internal/strconv.uint64pow10") = [("internal/strconv.uint64pow10", Rows.laid_internal_strconv_uint64pow10)] := by kernel_rfl
  have e2 : pkLaid.filter (fun x => (pkL.map (·.1)).contains x.1) = pkL.map fun x => (x.1, sentD x.2.2) := by kernel_rfl
  rw [e1] at h1
  rw [e2] at h2
  have h1' : laidMet Tryz.prog [("internal/strconv.uint64pow10", Rows.laid_internal_strconv_uint64pow10)] W := h1
  have h2' : laidMet Tryz.prog (pkL.map fun x => (x.1, sentD x.2.2)) W := h2
  obtain ⟨E, hE⟩ := env_of_laid pkL pkL_ok (by decide) h2'
  have h3 := h.filter (fun x => x.1 == "errors.errorType")
  have e3 : pkLaid.filter (fun x => x.1 == "errors.errorType") = [("errors.errorType", hndD)] := by kernel_rfl
  rw [e3] at h3
  have h3' : laidMet Tryz.prog [] W ∧ handlesMet Tryz.prog [("errors.errorType", hndD)] W := h3
  exact ⟨⟨Lib.tabIs_of_head (g := 15) (t := 209) (e := 191) (n := 20) (by kernel_rfl) (by kernel_rfl) Tryz.underlying209 Tryz.underlying191 (by kernel_rfl) (by kernel_rfl) h1', Tryz.laysM145.s1_3 W hs, ⟨_, _, hE.cell 18 (by decide)⟩, ⟨_, _, hE.cell 19 (by decide)⟩⟩,
    hnd_of_met h3'.2,
    E, hE.sub (by decide)⟩
set_option maxRecDepth 100000 in
theorem pk_met (os : Os) (args : Array Value) : laidMet Tryz.prog (pkLaid.filter fun x => x.2.handleName?.isNone) ((tsW os).forCall (fun _ _ => 0) ⟨#[], args, []⟩).memory :=
  laidMet_layVars (w0 := World.doorLaid Tryz.prog 400 os) ["unicode/utf8.first"] (tsB os) rfl (by kernel_rfl) (by kernel_rfl) (LaidIn.of_run (tsB os) 8 (by kernel_rfl) (by kernel_rfl) (by kernel_rfl) (by kernel_rfl))
set_option maxRecDepth 100000 in
theorem pk_door (os : Os) (args : Array Value) : laidMetH Tryz.prog pkLaid ((tsW os).forCall (fun _ _ => 0) ⟨#[], args, []⟩).memory :=
  laidMetH_of_parts3 (fuel := 8) (pk_met os args) (by kernel_rfl) (by kernel_rfl)
end Go.Proofs.YtoaedkinlnkkhaaGreatDoor
