/- What the cards of the trees' statements share: the listed variables, a tree by value, the witness's world. No condition. -/
import Derived.Test.YtoaedkinlnkkhaaDoorTrX
import Derived.Test.YtoaedkinlnkkhaaDoorTrC
import Derived.Test.YtoaedkinlnkkhaaDoorFrm0
import Derived.Test.YtoaedkinlnkkhaaDoorHs
import Derived.Test.YtoaedkinlnkkhaaDoorTie
import Derived.Test.YtoaedkinlnkkhaaDoorCards
import Derived.SevenTiedAt
import Derived.LaidSub
import Derived.Lay
import Derived.Lib.LaidIn
namespace Go.Proofs.YtoaedkinlnkkhaaDoor
open Go.ChangeShapes Go.WideShapes Go.ChangeAt Go.RowKit Go.Deep

set_option maxRecDepth 100000 in
/-- A tree by value. -/
theorem node_arg {H : Type} {enc : TypeId × Value → H} {W : World} {base b0 : Nat} {spare : Nat → Bool} {held : Bool} {v : Value} {d : DataW H} {p : List MemPlace} (hv : Value.okWide Tryd.prog W .any b0 24 v)
    (h : DataW.Trod enc Tryd.prog W base spare held 24 v d p) (hw : ∀ n ∈ d.weights Tryd.prog 24, n ≤ reachBytes) : ∃ t : Lt, v = nval t ∧ t.Ok W := by
  obtain ⟨cs, rfl, -⟩ := okWide_struct Tryd.underlying24 hv
  obtain ⟨fuel, hf⟩ := h
  obtain ⟨t, ht, hok⟩ := node_of _ (Nat.le_refl _) hf hw
  refine ⟨t, ?_, hok⟩
  have e : cs.toList = ncells t := ht
  unfold nval
  congr 1
  apply Array.ext'
  rw [e]; rfl

/-- The witness's world: the door's, and the pinned table laid behind it. -/
noncomputable def tsW (os : Os) : World := (World.doorLaid Tryd.prog 400 os).layVars Tryd.prog [("unicode/utf8.first", Rows.laid_unicode_utf8_first)]
theorem tsW_os (os : Os) : (tsW os).os = os := (World.layVars_os _ _ _).trans rfl
/-- The blocks of the others. -/
noncomputable def tsB (os : Os) : List Nat := (List.range (World.doorLaid Tryd.prog 400 os).heap.size).filter (· != 12)
end Go.Proofs.YtoaedkinlnkkhaaDoor
