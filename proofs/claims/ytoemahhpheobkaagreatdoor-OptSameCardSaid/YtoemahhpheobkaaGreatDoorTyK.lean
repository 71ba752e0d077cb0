/- What the cards of the trees' statements share: the listed variables, a tree by value, the witness's world. No condition. -/
import Derived.Test.YtoemahhpheobkaaGreatDoorHs
import Derived.Test.YtoemahhpheobkaaGreatDoorTrC
import Derived.Test.YtoemahhpheobkaaGreatDoorFrm0
import Derived.Test.YtoemahhpheobkaaGreatDoorTie
import Derived.Test.YtoemahhpheobkaaGreatDoorCards
import Derived.SevenTiedAt
import Derived.LaidSub
import Derived.Lay
import Derived.Lib.LaidIn
namespace Go.Proofs.YtoemahhpheobkaaGreatDoor
open Go.ChangeShapes Go.WideShapes Go.ChangeAt Go.RowKit Go.Deep

set_option maxRecDepth 100000 in
/-- A tree by value. -/
theorem node_arg {H : Type} {enc : TypeId × Value → H} {W : World} {base b0 : Nat} {spare : Nat → Bool} {held : Bool} {v : Value} {d : DataW H} {p : List MemPlace} (hv : Value.okWide Tryz.prog W .any b0 32 v)
    (h : DataW.Trod enc Tryz.prog W base spare held 32 v d p) (hw : ∀ n ∈ d.weights Tryz.prog 32, n ≤ reachBytes) : ∃ t : Lt, v = nval t ∧ t.Ok W := by
  obtain ⟨cs, rfl, -⟩ := okWide_struct Tryz.underlying32 hv
  obtain ⟨fuel, hf⟩ := h
  obtain ⟨t, ht, hok⟩ := node_of _ (Nat.le_refl _) hf hw
  refine ⟨t, ?_, hok⟩
  have e : cs.toList = ncells t := ht
  unfold nval
  congr 1
  apply Array.ext'
  rw [e]; rfl

/-- The witness's world: the door's, and the pinned table laid behind it. -/
noncomputable def tsW (os : Os) : World := (World.doorLaid Tryz.prog 400 os).layVars Tryz.prog [("unicode/utf8.first", Rows.laid_unicode_utf8_first)]
theorem tsW_os (os : Os) : (tsW os).os = os := (World.layVars_os _ _ _).trans rfl
/-- The blocks of the others. -/
noncomputable def tsB (os : Os) : List Nat := (List.range (World.doorLaid Tryz.prog 400 os).heap.size).filter (· != 11)
end Go.Proofs.YtoemahhpheobkaaGreatDoor
