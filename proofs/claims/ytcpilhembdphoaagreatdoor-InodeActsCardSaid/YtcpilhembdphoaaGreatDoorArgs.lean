/- What an argument that is a slice of structs holds: its elements' cells, by index. Condition: the argument reads as data. -/
import Derived.Test.YtcpilhembdphoaaGreatDoorFrame
import Derived.Test.YtcpilhembdphoaaGreatDoorSl
import Derived.Deep.Slices
import Derived.SliceStrings
namespace Go.Proofs.YtcpilhembdphoaaGreatDoor
open Go.ChangeShapes Go.WideShapes Go.ChangeAt Go.RowKit Go.Deep

theorem list_of_lt {α : Type} {p : Nat → α → Prop} : ∀ n, (∀ i, i < n → ∃ x, p i x) → ∃ l : List α, l.length = n ∧ ∀ i (h : i < l.length), p i l[i]
  | 0, _ => ⟨[], rfl, fun i h => by simp at h⟩
  | n + 1, h => by
    obtain ⟨l, hl, hp⟩ := list_of_lt n (fun i hi => h i (by omega))
    obtain ⟨x, hx⟩ := h n (by omega)
    refine ⟨l ++ [x], by simp [hl], fun i hi => ?_⟩
    by_cases e : i < l.length
    · rw [List.getElem_append_left e]; exact hp i e
    · have : i = l.length := by simp at hi; omega
      subst this
      rw [List.getElem_append_right (Nat.le_refl _)]
      simpa [hl] using hx

section
variable {H : Type} {enc : TypeId × Value → H} {W : World} {base : Nat} {spare : Nat → Bool} {held : Bool}

/-- The elements of a slice argument: c cells each. -/
theorem elems_of {t e : TypeId} {c fuel : Nat} {a : Option Addr} {len cap : Nat} {x : DataW H × List MemPlace} (ht : Tryz.prog.underlying t = some (.slice e)) (hc : Tryz.prog.cellsOf e = c) (h0 : 0 < c)
    (h : DataW.trod enc Tryz.prog W base spare held fuel t [.slice a len cap] = some x) :
    len ≤ cap ∧ cap ≤ maxLen ∧ ∀ i, i < len → ∃ b off n d cs, a = some ⟨b, off, none⟩ ∧ b < W.heap.size ∧ cs.length = c ∧ (∀ j (hj : j < cs.length), W.cell? ⟨b, off + i * c + j, none⟩ = some cs[j]) ∧ DataW.trod enc Tryz.prog W base spare held n e cs = some d := by
  rcases open_slice ht h with ⟨hcs, -⟩ | ⟨ad, len', cap', m, n, D, Pl, hcs, -, hl, hm, hmm, -, hx⟩
  · simp at hcs
    obtain ⟨rfl, rfl, rfl⟩ := hcs
    exact ⟨Nat.le_refl _, by unfold maxLen; omega, fun i hi => by omega⟩
  · simp at hcs
    obtain ⟨rfl, rfl, rfl⟩ := hcs
    refine ⟨hl, hm, fun i hi => ?_⟩
    have hmi : i < m := by rw [hmm]; split <;> omega
    obtain ⟨cs, h1, h2⟩ := hx i hmi
    rw [hc] at h1
    obtain ⟨_, hlen, hcell⟩ := World.cells?_some h1
    obtain ⟨cs0, g1, g2⟩ := hx 0 (by omega)
    obtain ⟨_, glen, gcell⟩ := World.cells?_some g1
    have gc0 := gcell 0 (by rw [hc]; exact h0)
    obtain ⟨v0, hv0⟩ : ∃ v, cs0[0]? = some v := ⟨cs0[0]'(by rw [glen, hc]; exact h0), List.getElem?_eq_getElem _⟩
    rw [hv0] at gc0
    obtain ⟨b, off, spot⟩ := ad
    have hs : spot = none := by simpa [Addr.add] using World.cell?_spot gc0
    subst hs
    have ea : ∀ o k, (⟨b, o, none⟩ : Addr).add k = ⟨b, o + k, none⟩ := fun o k => by unfold Addr.add; split <;> simp_all
    refine ⟨b, off, n, _, cs, rfl, ?_, hlen, fun j hj => ?_, h2⟩
    · have := World.block_lt_of_cell? W _ gc0
      simpa [Addr.add] using this
    · have := hcell j (by omega)
      rw [ea, ea, List.getElem?_eq_getElem hj] at this
      exact this

theorem sl_row {x : Addr} {len cap : Nat} {zs : List Int} (hl : len ≤ cap) (hm : cap ≤ maxLen) (hz : len ≤ zs.length) (hcell : ∀ i, i < zs.length → W.cell? (x.add i) = some (.int .i64 (zs.getD i 0))) :
    Sl W (.slice (some x) len cap) (icells (zs.take len)) (zs.take len).length 1 := by
  have e : (zs.take len).length = len := by rw [List.length_take]; omega
  rw [e]
  refine ⟨some x, cap, rfl, by rw [icells_len, e]; omega, hl, hm, ?_⟩
  by_cases h0 : len = 0
  · exact .inl h0
  · right
    obtain ⟨b, off, spot⟩ := x
    have h1 := hcell 0 (by omega)
    have hsp : spot = none := by simpa [Addr.add] using World.cell?_spot h1
    subst hsp
    refine ⟨b, off, rfl, by simpa [Addr.add] using World.block_lt_of_cell? W _ h1, fun j hj => ?_⟩
    rw [icells_len, e] at hj
    have h2 := hcell j (by omega)
    have ea : (⟨b, off, none⟩ : Addr).add j = ⟨b, off + j, none⟩ := by unfold Addr.add; split <;> simp_all
    rw [ea] at h2
    rw [h2]
    simp [icells, List.getD_eq_getElem?_getD, List.getElem?_eq_getElem (show j < zs.length by omega)]

/-- A slice of ints that is read. -/
theorem ints_of {fuel : Nat} {cs : List Value} {x : DataW H × List MemPlace} (h : DataW.trod enc Tryz.prog W base spare held fuel 31 cs = some x) :
    ∃ v l, cs = [v] ∧ Sl W v (icells l) l.length 1 := by
  rcases open_ints Tryz.underlying31 Tryz.underlying3 (by kernel_rfl) h with ⟨rfl, _⟩ | ⟨ad, len, cap, zs, rfl, _, hl, hm, hz, _, hcell, _⟩
  · exact ⟨_, [], rfl, Sl.nil W 1⟩
  · have : len ≤ zs.length := by rw [hz]; split <;> omega
    exact ⟨_, zs.take len, rfl, sl_row hl hm this hcell⟩

/-- A struct's cells, field by field. -/
theorem field_of {t : TypeId} {fs : Array Field} {fuel : Nat} {cs : List Value} {x : DataW H × List MemPlace} (ht : Tryz.prog.underlying t = some (.struct fs)) (h : DataW.trod enc Tryz.prog W base spare held fuel t cs = some x)
    (i : Nat) (f : Field) (hf : fs[i]? = some f) : ∃ n y, DataW.trod enc Tryz.prog W base spare held n f.type ((cs.drop f.offset).take (Tryz.prog.cellsOf f.type)) = some y := by
  obtain ⟨xs, n, -, -, -, hl, hx⟩ := DataW.trod_struct ht h
  have hi : i < fs.size := (Array.getElem?_eq_some_iff.1 hf).1
  exact ⟨n, xs[i], (hx i f hf).trans (List.getElem?_eq_getElem (by omega))⟩
end
end Go.Proofs.YtcpilhembdphoaaGreatDoor
