/- Trees in a row: in memory, as an argument, their texts in plain words. Condition: it reads as data, each of its texts within reach. -/
import Derived.Test.YtoaedkinlnkkhaaDoorTrX
import Derived.Test.YtoaedkinlnkkhaaDoorBkP
import Derived.Deep.Strs
namespace Go.Proofs.YtoaedkinlnkkhaaDoor
open Go.ChangeShapes Go.WideShapes Go.ChangeAt Go.RowKit Go.Deep Go.Joins

/-- The cells of trees in a row. -/
def ndcells (l : List Lt) : List Value := l.flatMap ncells
theorem ndcells_len (l : List Lt) : (ndcells l).length = l.length * 4 := by
  induction l with
  | nil => rfl
  | cons x r ih =>
    have e : ndcells (x :: r) = .string x.kind :: .string x.data :: .bool x.exec :: x.v :: ndcells r := rfl
    rw [e]; simp only [List.length_cons, ih]; omega
theorem ndcells_at : ∀ (l : List Lt) (i : Nat) (h : i < l.length), (ndcells l)[i * 4]? = some (.string l[i].kind) ∧ (ndcells l)[i * 4 + 1]? = some (.string l[i].data) ∧ (ndcells l)[i * 4 + 2]? = some (.bool l[i].exec) ∧ (ndcells l)[i * 4 + 3]? = some l[i].v
  | x :: l, 0, h => ⟨rfl, rfl, rfl, rfl⟩
  | x :: l, i + 1, h => by
    have := ndcells_at l i (by simpa using h)
    have e : ndcells (x :: l) = .string x.kind :: .string x.data :: .bool x.exec :: x.v :: ndcells l := rfl
    rw [e, show (i + 1) * 4 = i * 4 + 1 + 1 + 1 + 1 by omega, show i * 4 + 1 + 1 + 1 + 1 + 2 = i * 4 + 2 + 1 + 1 + 1 + 1 by omega,
      show i * 4 + 1 + 1 + 1 + 1 + 3 = i * 4 + 3 + 1 + 1 + 1 + 1 by omega]
    simpa using this
/-- A slice of trees, in memory. -/
def NdI (l : List Lt) (v : Value) (w : World) : Prop := Sl w v (ndcells l) l.length 4 ∧ ∀ t ∈ l, t.Ok w
theorem NdI.ob {l : List Lt} {v : Value} {w w' : World} (h : NdI l v w) (hb : Below w.heap.size w w') : NdI l v w' := ⟨h.1.ob hb (Nat.le_refl _), fun t ht => (h.2 t ht).ob hb⟩
theorem NdI.shape {l : List Lt} {v : Value} {w : World} (h : NdI l v w) : ∃ a cap, v = .slice a l.length cap := by
  obtain ⟨a, cap, hv, _⟩ := h.1
  exact ⟨a, cap, hv⟩
theorem NdI.at {l : List Lt} {a : Option Addr} {n cap : Nat} {w : World} (h : NdI l (.slice a n cap) w) {i : Nat} (hi : i < l.length) :
    ∃ b off, a = some ⟨b, off, none⟩ ∧ b < w.heap.size ∧ w.cell? ⟨b, off + i * 4, none⟩ = some (.string l[i].kind) ∧ w.cell? ⟨b, off + i * 4 + 1, none⟩ = some (.string l[i].data) ∧ w.cell? ⟨b, off + i * 4 + 2, none⟩ = some (.bool l[i].exec) ∧ w.cell? ⟨b, off + i * 4 + 3, none⟩ = some l[i].v := by
  obtain ⟨a', cap', he, h1, h2, h2', h3⟩ := h.1
  simp only [Value.slice.injEq] at he
  obtain ⟨rfl, rfl, rfl⟩ := he
  rcases h3 with h3 | ⟨b, off, rfl, h4, h5⟩
  · omega
  · have hl := ndcells_len l
    obtain ⟨k0, k1, k2, k3⟩ := ndcells_at l i hi
    refine ⟨b, off, rfl, h4, ?_, ?_, ?_, ?_⟩
    · rw [h5 _ (by omega)]; rw [List.getElem?_eq_getElem (by omega)] at k0; exact k0
    · rw [Nat.add_assoc, h5 _ (by omega)]; rw [List.getElem?_eq_getElem (by omega)] at k1; exact k1
    · rw [Nat.add_assoc, h5 _ (by omega)]; rw [List.getElem?_eq_getElem (by omega)] at k2; exact k2
    · rw [Nat.add_assoc, h5 _ (by omega)]; rw [List.getElem?_eq_getElem (by omega)] at k3; exact k3

section
variable {H : Type} {enc : TypeId × Value → H} {W : World} {base : Nat} {spare : Nat → Bool} {held : Bool}
set_option maxRecDepth 100000 in
theorem nodes_of {fuel : Nat} {c3 : Value} {x : DataW H × List MemPlace} (g3 : DataW.trod enc Tryd.prog W base spare held fuel 45 [c3] = some x) (hw3 : ∀ n ∈ x.1.weights Tryd.prog 45, n ≤ reachBytes) :
    ∃ ls : List Lt, NdI ls c3 W := by
  have k4 : Tryd.prog.cellsOf 24 = 4 := by kernel_rfl
  have hsh : c3 = .slice none 0 0 ∨ ∃ ad len cap, c3 = .slice (some ad) len cap := by
    rcases open_slice Tryd.underlying45 g3 with ⟨hcs, -⟩ | ⟨ad, len, cap, _, _, _, _, hcs, _⟩
    · exact .inl (by simpa using hcs)
    · exact .inr ⟨ad, len, cap, by simpa using hcs⟩
  rcases hsh with rfl | ⟨ad, len, cap, rfl⟩
  · exact ⟨[], Sl.nil _ 4, fun c hc => by cases hc⟩
  · obtain ⟨hlc, hcm, D, Pl, r, hy3, hel⟩ := elems_data (c := 4) Tryd.underlying45 k4 (by decide) g3
    obtain ⟨L, hL, hp⟩ := list_of_lt (p := fun i (q : Lt) => ∃ b off, ad = ⟨b, off, none⟩ ∧ b < W.heap.size ∧ (∀ j (hj : j < 4), W.cell? ⟨b, off + i * 4 + j, none⟩ = (ncells q)[j]?) ∧ q.Ok W) len (fun i hi => by
      obtain ⟨b, off, n', cs', e, hb, hcl, hcell, ht⟩ := hel i hi
      have hwi : ∀ n ∈ (D i).weights Tryd.prog 24, n ≤ reachBytes := fun n hn => hw3 n (by
        rw [hy3]
        simp only [DataW.weights, Tryd.underlying45]
        exact List.mem_cons_of_mem _ (List.mem_append_left _ (weights_all (List.mem_map.2 ⟨i, List.mem_range.2 hi, rfl⟩) n hn)))
      obtain ⟨t, ht', hok⟩ := node_of _ (Nat.le_refl _) ht hwi
      refine ⟨t, b, off, e, hb, fun j hj => ?_, hok⟩
      rw [← ht', hcell j (by omega), List.getElem?_eq_getElem (by omega)])
    refine ⟨L, ⟨some ad, cap, by rw [hL], by rw [ndcells_len], by omega, hcm, ?_⟩, ?_⟩
    · by_cases h0 : len = 0
      · exact .inl (by omega)
      · right
        obtain ⟨b, off, rfl, hb, -⟩ := hp 0 (by omega)
        refine ⟨b, off, rfl, hb, fun j hj => ?_⟩
        have hlk := ndcells_len L
        have hi6 : j / 4 < L.length := by omega
        obtain ⟨b', off', e, -, hcj, -⟩ := hp (j / 4) hi6
        simp only [Addr.mk.injEq] at e
        obtain ⟨rfl, rfl, -⟩ := e
        have hc := hcj (j % 4) (by omega)
        rw [Nat.add_assoc, show j / 4 * 4 + j % 4 = j by omega] at hc
        rw [hc, ← List.getElem?_eq_getElem hj]
        obtain ⟨q0, q1, q2, q3⟩ := ndcells_at L (j / 4) hi6
        have hj6 : j % 4 = 0 ∨ j % 4 = 1 ∨ j % 4 = 2 ∨ j % 4 = 3 := by omega
        rcases hj6 with h5 | h5 | h5 | h5
        · rw [h5, show (ndcells L)[j]? = (ndcells L)[j / 4 * 4]? by rw [show j / 4 * 4 = j by omega], q0]; rfl
        · rw [h5, show (ndcells L)[j]? = (ndcells L)[j / 4 * 4 + 1]? by rw [show j / 4 * 4 + 1 = j by omega], q1]; rfl
        · rw [h5, show (ndcells L)[j]? = (ndcells L)[j / 4 * 4 + 2]? by rw [show j / 4 * 4 + 2 = j by omega], q2]; rfl
        · rw [h5, show (ndcells L)[j]? = (ndcells L)[j / 4 * 4 + 3]? by rw [show j / 4 * 4 + 3 = j by omega], q3]; rfl
    · intro y hy
      obtain ⟨i, hi, rfl⟩ := List.getElem_of_mem hy
      obtain ⟨_, _, _, _, _, h1⟩ := hp i hi
      exact h1
theorem nodes_arg {a : Option Addr} {len cap : Nat} {d : DataW H} {p : List MemPlace} (h : DataW.Trod enc Tryd.prog W base spare held 45 (.slice a len cap) d p) (hw : ∀ n ∈ d.weights Tryd.prog 45, n ≤ reachBytes) : ∃ ls : List Lt, NdI ls (.slice a len cap) W := by
  obtain ⟨m, hm⟩ := h
  exact nodes_of (c3 := .slice a len cap) (x := (d, p)) hm hw
end
/-- Texts of trees, one behind the other. -/
def catT (l : List Lt) : List UInt8 := l.flatMap textL
theorem catT_succ (l : List Lt) {k : Nat} (h : k < l.length) : catT (l.take (k + 1)) = catT (l.take k) ++ textL l[k] := by
  rw [List.take_succ_eq_append_getElem h]
  unfold catT
  rw [List.flatMap_append]
  congr 1
  simp
theorem catT_drop (l : List Lt) {k : Nat} (h : k < l.length) : catT (l.drop k) = textL l[k] ++ catT (l.drop (k + 1)) := by
  rw [show l.drop k = l[k] :: l.drop (k + 1) from (List.getElem_cons_drop h).symm]
  rfl
theorem catT_len : ∀ l : List Lt, (∀ t ∈ l, treeE t = 0) → (catT l).length ≤ 500000 * l.length
  | [], _ => by simp [catT]
  | t :: r, h => by
    have h1 := right_len (h t (List.mem_cons_self ..))
    have h2 := catT_len r (fun x hx => h x (List.mem_cons_of_mem _ hx))
    rw [← size_toList, bstr_list] at h1
    rw [show catT (t :: r) = textL t ++ catT r from rfl, List.length_append, List.length_cons]
    omega
/-- The first of the texts. -/
theorem first_cat (l : List Lt) {k : Nat} (h : k < l.length) (h0 : treeE l[k] = 0) (hs : (catT (l.drop k)).length ≤ 20000) : firstP (bstr (catT (l.drop k))) = .ok (l[k].bare, catT (l.drop (k + 1))) := by
  have e : bstr (catT (l.drop k)) = bstr (textL l[k].bare) ++ bstr (catT (l.drop (k + 1))) := by
    rw [catT_drop l h, show textL l[k].bare = textL l[k] from textL_map _ _]
    exact ba_ext (by simp [bstr])
  have hb : treeE l[k].bare = 0 := by rw [← h0]; exact treeE_map _ _
  have hz : (bstr (catT (l.drop k))).size ≤ 20000 := by rw [← size_toList, bstr_list]; exact hs
  rw [e, first_right hb, if_neg (by rw [← e]; omega), bstr_list]
end Go.Proofs.YtoaedkinlnkkhaaDoor
