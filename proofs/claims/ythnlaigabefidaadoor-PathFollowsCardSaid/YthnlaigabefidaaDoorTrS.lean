/- The contract of the reference's SameTree. Condition: the trees are there. -/
import Derived.Test.YthnlaigabefidaaDoorTrL
import Derived.WalkLawsBesides
import Derived.Lib.Hide
import Derived.Lib.Strings
import Derived.WideShapes
namespace Go.Proofs.YthnlaigabefidaaDoor
open Go.RowKit

theorem Tr.bare_kids_len {a b : Lt} (h : a.bare = b.bare) : a.kids.length = b.kids.length := by
  have := congrArg (fun t : Nd => t.kids.length) h
  simpa [Tr.bare, Tr.kids_map] using this
theorem Tr.bare_iff {a b : Lt} : a.bare = b.bare ↔ a.kind = b.kind ∧ a.data = b.data ∧ a.exec = b.exec ∧ a.kids.length = b.kids.length ∧ ∀ i (h : i < a.kids.length) (h' : i < b.kids.length), a.kids[i].1 = b.kids[i].1 ∧ a.kids[i].2.bare = b.kids[i].2.bare := by
  constructor
  · intro h
    refine ⟨by simpa [Tr.bare, Tr.kind_map] using congrArg Tr.kind h, by simpa [Tr.bare, Tr.data_map] using congrArg Tr.data h, by simpa [Tr.bare, Tr.exec_map] using congrArg Tr.exec h, Tr.bare_kids_len h, fun i hi hi' => ?_⟩
    have hk := congrArg Tr.kids h
    unfold Tr.bare at hk
    rw [Tr.kids_map, Tr.kids_map] at hk
    have := congrArg (fun l => l[i]?) hk
    simp only [List.getElem?_map, List.getElem?_eq_getElem hi, List.getElem?_eq_getElem hi', Option.map_some, Option.some.injEq, Prod.mk.injEq] at this
    exact this
  · rintro ⟨h1, h2, h3, h4, h5⟩
    refine Tr.eq_of (by simpa [Tr.bare, Tr.kind_map] using h1) (by simpa [Tr.bare, Tr.data_map] using h2) (by simpa [Tr.bare, Tr.exec_map] using h3) ?_
    unfold Tr.bare
    rw [Tr.kids_map, Tr.kids_map]
    refine List.ext_getElem (by simpa using h4) (fun i hi hi' => ?_)
    simp only [List.getElem_map, Prod.mk.injEq]
    exact h5 i (by simpa using hi) (by simpa using hi')

theorem ne_str {a b : ByteArray} (h : a ≠ b) : a.toList ≠ b.toList := fun e => h (Go.WideShapes.bytes_inj (by rw [← Lib.toList_data, ← Lib.toList_data]; exact e))
theorem bne_str {a b : ByteArray} (h : a ≠ b) : (a.toList != b.toList) = true := by simpa using ne_str h
theorem beq_str {a b : ByteArray} (h : a ≠ b) : (a.toList == b.toList) = false := by simpa using ne_str h
end Go.Proofs.YthnlaigabefidaaDoor
