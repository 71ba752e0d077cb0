/- What an argument that is a slice of structs holds: its elements' cells, by index. Condition: the argument reads as data. · An argument that is a tree. Condition: it reads as data, each of its texts within reach. · The row's proof out of a walk that is told the listed variables, the reach of the arguments and the world's shape. No condition of its own. -/
import Derived.Test.YtoemahhpheobkaaGreatDoorFrm0
import Derived.Test.YtoemahhpheobkaaGreatDoorApp
import Derived.Deep.Slices
import Derived.SliceStrings
import Derived.Test.YtoemahhpheobkaaGreatDoorTrO
import Derived.Lib.SmallJoins
import Derived.SizedLaws
import Derived.HandedShaped
namespace Go.Proofs.YtoemahhpheobkaaGreatDoor
open Go.ChangeShapes Go.WideShapes Go.ChangeAt Go.RowKit Go.Deep

theorem list_of_lt {α : Type} {p : Nat → α → Prop} : ∀ n, (∀ i, i < n → ∃ x, p i x) → ∃ l : List α, l.length = n ∧ ∀ i (h : i < l.length), p i l[i]
  | 0, _ => ⟨[], rfl, fun i h => by simp at h⟩
  | n + 1, h => by
    obtain ⟨l, hl, hp⟩ := list_of_lt n (fun i hi => h i (by omega))
    obtain ⟨x, hx⟩ := h n (by omega)
    refine ⟨l ++ [x], by simp [hl], fun i hi => ?_⟩
    by_cases e : i < l.length
    · rw [List.getElem_append_left e]; exact hp i e
    · have : i = l.length := by simp at hi; omega
      subst this
      rw [List.getElem_append_right (Nat.le_refl _)]
      simpa [hl] using hx

section
variable {H : Type} {enc : TypeId × Value → H} {W : World} {base : Nat} {spare : Nat → Bool} {held : Bool}

/-- The elements of a slice argument: c cells each. -/
theorem elems_of {t e : TypeId} {c fuel : Nat} {a : Option Addr} {len cap : Nat} {x : DataW H × List MemPlace} (ht : Tryz.prog.underlying t = some (.slice e)) (hc : Tryz.prog.cellsOf e = c) (h0 : 0 < c)
    (h : DataW.trod enc Tryz.prog W base spare held fuel t [.slice a len cap] = some x) :
    len ≤ cap ∧ cap ≤ maxLen ∧ ∀ i, i < len → ∃ b off n d cs, a = some ⟨b, off, none⟩ ∧ b < W.heap.size ∧ cs.length = c ∧ (∀ j (hj : j < cs.length), W.cell? ⟨b, off + i * c + j, none⟩ = some cs[j]) ∧ DataW.trod enc Tryz.prog W base spare held n e cs = some d := by
  rcases open_slice ht h with ⟨hcs, -⟩ | ⟨ad, len', cap', m, n, D, Pl, hcs, -, hl, hm, hmm, -, hx⟩
  · simp at hcs
    obtain ⟨rfl, rfl, rfl⟩ := hcs
    exact ⟨Nat.le_refl _, by unfold maxLen; omega, fun i hi => by omega⟩
  · simp at hcs
    obtain ⟨rfl, rfl, rfl⟩ := hcs
    refine ⟨hl, hm, fun i hi => ?_⟩
    have hmi : i < m := by rw [hmm]; split <;> omega
    obtain ⟨cs, h1, h2⟩ := hx i hmi
    rw [hc] at h1
    obtain ⟨_, hlen, hcell⟩ := World.cells?_some h1
    obtain ⟨cs0, g1, g2⟩ := hx 0 (by omega)
    obtain ⟨_, glen, gcell⟩ := World.cells?_some g1
    have gc0 := gcell 0 (by rw [hc]; exact h0)
    obtain ⟨v0, hv0⟩ : ∃ v, cs0[0]? = some v := ⟨cs0[0]'(by rw [glen, hc]; exact h0), List.getElem?_eq_getElem _⟩
    rw [hv0] at gc0
    obtain ⟨b, off, spot⟩ := ad
    have hs : spot = none := by simpa [Addr.add] using World.cell?_spot gc0
    subst hs
    have ea : ∀ o k, (⟨b, o, none⟩ : Addr).add k = ⟨b, o + k, none⟩ := fun o k => by unfold Addr.add; split <;> simp_all
    refine ⟨b, off, n, _, cs, rfl, ?_, hlen, fun j hj => ?_, h2⟩
    · have := World.block_lt_of_cell? W _ gc0
      simpa [Addr.add] using this
    · have := hcell j (by omega)
      rw [ea, ea, List.getElem?_eq_getElem hj] at this
      exact this

theorem sl_row {x : Addr} {len cap : Nat} {zs : List Int} (hl : len ≤ cap) (hm : cap ≤ maxLen) (hz : len ≤ zs.length) (hcell : ∀ i, i < zs.length → W.cell? (x.add i) = some (.int .i64 (zs.getD i 0))) :
    Sl W (.slice (some x) len cap) (icells (zs.take len)) (zs.take len).length 1 := by
  have e : (zs.take len).length = len := by rw [List.length_take]; omega
  rw [e]
  refine ⟨some x, cap, rfl, by rw [icells_len, e]; omega, hl, hm, ?_⟩
  by_cases h0 : len = 0
  · exact .inl h0
  · right
    obtain ⟨b, off, spot⟩ := x
    have h1 := hcell 0 (by omega)
    have hsp : spot = none := by simpa [Addr.add] using World.cell?_spot h1
    subst hsp
    refine ⟨b, off, rfl, by simpa [Addr.add] using World.block_lt_of_cell? W _ h1, fun j hj => ?_⟩
    rw [icells_len, e] at hj
    have h2 := hcell j (by omega)
    have ea : (⟨b, off, none⟩ : Addr).add j = ⟨b, off + j, none⟩ := by unfold Addr.add; split <;> simp_all
    rw [ea] at h2
    rw [h2]
    simp [icells, List.getD_eq_getElem?_getD, List.getElem?_eq_getElem (show j < zs.length by omega)]

/-- A slice of ints that is read. -/
theorem ints_of {fuel : Nat} {cs : List Value} {x : DataW H × List MemPlace} (h : DataW.trod enc Tryz.prog W base spare held fuel 44 cs = some x) :
    ∃ v l, cs = [v] ∧ Sl W v (icells l) l.length 1 := by
  rcases open_ints Tryz.underlying44 Tryz.underlying3 (by kernel_rfl) h with ⟨rfl, _⟩ | ⟨ad, len, cap, zs, rfl, _, hl, hm, hz, _, hcell, _⟩
  · exact ⟨_, [], rfl, Sl.nil W 1⟩
  · have : len ≤ zs.length := by rw [hz]; split <;> omega
    exact ⟨_, zs.take len, rfl, sl_row hl hm this hcell⟩

/-- A struct's cells, field by field. -/
theorem field_of {t : TypeId} {fs : Array Field} {fuel : Nat} {cs : List Value} {x : DataW H × List MemPlace} (ht : Tryz.prog.underlying t = some (.struct fs)) (h : DataW.trod enc Tryz.prog W base spare held fuel t cs = some x)
    (i : Nat) (f : Field) (hf : fs[i]? = some f) : ∃ n y, DataW.trod enc Tryz.prog W base spare held n f.type ((cs.drop f.offset).take (Tryz.prog.cellsOf f.type)) = some y := by
  obtain ⟨xs, n, -, -, -, hl, hx⟩ := DataW.trod_struct ht h
  have hi : i < fs.size := (Array.getElem?_eq_some_iff.1 hf).1
  exact ⟨n, xs[i], (hx i f hf).trans (List.getElem?_eq_getElem (by omega))⟩
end
end Go.Proofs.YtoemahhpheobkaaGreatDoor

namespace Go.Proofs.YtoemahhpheobkaaGreatDoor
open Go.ChangeShapes Go.WideShapes Go.ChangeAt Go.RowKit Go.Deep Go.Joins

section
variable {H : Type} {enc : TypeId × Value → H} {W : World} {base : Nat} {spare : Nat → Bool} {held : Bool}

/-- The elements of a slice argument, and what they read as. -/
theorem elems_data {t e : TypeId} {c fuel : Nat} {ad : Addr} {len cap : Nat} {x : DataW H × List MemPlace} (ht : Tryz.prog.underlying t = some (.slice e)) (hc : Tryz.prog.cellsOf e = c) (h0 : 0 < c)
    (h : DataW.trod enc Tryz.prog W base spare held fuel t [.slice (some ad) len cap] = some x) :
    len ≤ cap ∧ cap ≤ maxLen ∧ ∃ (D : Nat → DataW H) (Pl : Nat → List MemPlace) (r : List (DataW H)), x.1 = .slice ((List.range len).map D) r ∧
      ∀ i, i < len → ∃ b off n cs, ad = ⟨b, off, none⟩ ∧ b < W.heap.size ∧ cs.length = c ∧ (∀ j (hj : j < cs.length), W.cell? ⟨b, off + i * c + j, none⟩ = some cs[j]) ∧ DataW.trod enc Tryz.prog W base spare held n e cs = some (D i, Pl i) := by
  rcases open_slice ht h with ⟨hcs, -⟩ | ⟨ad', len', cap', m, n, D, Pl, hcs, -, hl, hm, hmm, hxx, hx⟩
  · simp at hcs
  · simp at hcs
    obtain ⟨rfl, rfl, rfl⟩ := hcs
    refine ⟨hl, hm, D, Pl, _, by rw [hxx], fun i hi => ?_⟩
    have hmi : i < m := by rw [hmm]; split <;> omega
    obtain ⟨cs, h1, h2⟩ := hx i hmi
    rw [hc] at h1
    obtain ⟨_, hlen, hcell⟩ := World.cells?_some h1
    obtain ⟨cs0, g1, g2⟩ := hx 0 (by omega)
    obtain ⟨_, glen, gcell⟩ := World.cells?_some g1
    have gc0 := gcell 0 (by rw [hc]; exact h0)
    obtain ⟨v0, hv0⟩ : ∃ v, cs0[0]? = some v := ⟨cs0[0]'(by rw [glen, hc]; exact h0), List.getElem?_eq_getElem _⟩
    rw [hv0] at gc0
    obtain ⟨b, off, spot⟩ := ad
    have hs : spot = none := by simpa [Addr.add] using World.cell?_spot gc0
    subst hs
    have ea : ∀ o k, (⟨b, o, none⟩ : Addr).add k = ⟨b, o + k, none⟩ := fun o k => by unfold Addr.add; split <;> simp_all
    refine ⟨b, off, n, cs, rfl, ?_, hlen, fun j hj => ?_, h2⟩
    · have := World.block_lt_of_cell? W _ gc0
      simpa [Addr.add] using this
    · have := hcell j (by omega)
      rw [ea, ea, List.getElem?_eq_getElem hj] at this
      exact this

theorem weights_all {e : TypeId} : ∀ {l : List (DataW H)} {d : DataW H}, d ∈ l → ∀ n ∈ d.weights Tryz.prog e, n ∈ DataW.weightsAll Tryz.prog e l
  | d0 :: l, d, h, n, hn => by
    rw [DataW.weightsAll, List.mem_append]
    rcases List.mem_cons.1 h with rfl | h
    · exact .inl hn
    · exact .inr (weights_all h n hn)

theorem list4 {α : Type} : ∀ {l : List α}, l.length = 4 → ∃ a b c d, l = [a, b, c, d]
  | [a, b, c, d], _ => ⟨a, b, c, d, rfl⟩
theorem list5 {α : Type} : ∀ {l : List α}, l.length = 5 → ∃ a b c d e, l = [a, b, c, d, e]
  | [a, b, c, d, e], _ => ⟨a, b, c, d, e, rfl⟩

set_option maxRecDepth 100000 in
theorem node_of (m : Nat) : ∀ {fuel : Nat} {cs : List Value} {x : DataW H × List MemPlace}, SizeOf.sizeOf x.1 ≤ m → DataW.trod enc Tryz.prog W base spare held fuel 32 cs = some x →
    (∀ n ∈ x.1.weights Tryz.prog 32, n ≤ reachBytes) → ∃ t : Lt, cs = ncells t ∧ t.Ok W := by
  induction m with
  | zero => intro fuel cs x hm; obtain ⟨x1, x2⟩ := x; cases x1 <;> simp at hm <;> omega
  | succ m ih =>
    intro fuel cs x hm h hw
    have k1 : Tryz.prog.cellsOf 9 = 1 := by kernel_rfl
    have k2 : Tryz.prog.cellsOf 4 = 1 := by kernel_rfl
    have k3 : Tryz.prog.cellsOf 30 = 1 := by kernel_rfl
    have k4 : Tryz.prog.cellsOf 32 = 4 := by kernel_rfl
    have k5 : Tryz.prog.cellsOf 85 = 5 := by kernel_rfl
    obtain ⟨y0, y1, y2, y3, n, hx, hl, f0, f1, f2, f3⟩ := trod_struct4 Tryz.underlying32 h
    rw [k4] at hl
    obtain ⟨c0, c1, c2, c3, rfl⟩ := list4 hl
    have g0 : DataW.trod enc Tryz.prog W base spare held n 9 (([c0, c1, c2, c3].drop 0).take (Tryz.prog.cellsOf 9)) = some y0 := f0
    have g1 : DataW.trod enc Tryz.prog W base spare held n 9 (([c0, c1, c2, c3].drop 1).take (Tryz.prog.cellsOf 9)) = some y1 := f1
    have g2 : DataW.trod enc Tryz.prog W base spare held n 4 (([c0, c1, c2, c3].drop 2).take (Tryz.prog.cellsOf 4)) = some y2 := f2
    have g3 : DataW.trod enc Tryz.prog W base spare held n 30 (([c0, c1, c2, c3].drop 3).take (Tryz.prog.cellsOf 30)) = some y3 := f3
    rw [k1] at g0 g1
    rw [k2] at g2
    rw [k3] at g3
    replace g0 : DataW.trod enc Tryz.prog W base spare held n 9 [c0] = some y0 := g0
    replace g1 : DataW.trod enc Tryz.prog W base spare held n 9 [c1] = some y1 := g1
    replace g2 : DataW.trod enc Tryz.prog W base spare held n 4 [c2] = some y2 := g2
    replace g3 : DataW.trod enc Tryz.prog W base spare held n 30 [c3] = some y3 := g3
    obtain ⟨s0, e0, -⟩ := DataW.trod_string Tryz.underlying9 g0
    obtain ⟨s1, e1, -⟩ := DataW.trod_string Tryz.underlying9 g1
    obtain ⟨b2, e2, -⟩ := DataW.trod_bool Tryz.underlying4 g2
    simp only [List.cons.injEq, and_true] at e0 e1 e2
    subst e0 e1 e2
    have hw3 : ∀ n ∈ y3.1.weights Tryz.prog 30, n ≤ reachBytes := fun n hn => hw n (by
      rw [hx]
      simp only [DataW.weights, Tryz.underlying32]
      simp only [List.map_cons, List.map_nil, DataW.weightsEach, List.mem_append]
      exact .inr (.inr (.inr (.inl hn))))
    have hm3 : SizeOf.sizeOf y3.1 ≤ m := by
      have e := congrArg (fun z => SizeOf.sizeOf z.1) hx
      simp at e
      omega
    have hsh : c3 = .slice none 0 0 ∨ ∃ ad len cap, c3 = .slice (some ad) len cap := by
      rcases open_slice Tryz.underlying30 g3 with ⟨hcs, -⟩ | ⟨ad, len, cap, _, _, _, _, hcs, _⟩
      · exact .inl (by simpa using hcs)
      · exact .inr ⟨ad, len, cap, by simpa using hcs⟩
    rcases hsh with rfl | ⟨ad, len, cap, rfl⟩
    · exact ⟨.mk s0 s1 b2 (.slice none 0 0) [], rfl, Tr.Ok.mk' (Sl.nil _ 5) (by intro y hy; cases hy) (by intro y hy; cases hy)⟩
    · obtain ⟨hlc, hcm, D, Pl, r, hy3, hel⟩ := elems_data (c := 5) Tryz.underlying30 k5 (by decide) g3
      obtain ⟨L, hL, hp⟩ := list_of_lt (p := fun i (q : ByteArray × Lt) => ∃ b off, ad = ⟨b, off, none⟩ ∧ b < W.heap.size ∧ (∀ j (hj : j < 5), W.cell? ⟨b, off + i * 5 + j, none⟩ = (.string q.1 :: ncells q.2)[j]?) ∧ q.1.size ≤ 140737488351232 ∧ q.2.Ok W) len (fun i hi => by
        obtain ⟨b, off, n', cs', e, hb, hcl, hcell, ht⟩ := hel i hi
        obtain ⟨z0, z1, n2, hz, -, q0, q1⟩ := trod_struct2 Tryz.underlying85 ht
        have hwi : ∀ n ∈ (D i).weights Tryz.prog 85, n ≤ reachBytes := fun n hn => hw3 n (by
          rw [hy3]
          simp only [DataW.weights, Tryz.underlying30]
          exact List.mem_cons_of_mem _ (List.mem_append_left _ (weights_all (List.mem_map.2 ⟨i, List.mem_range.2 hi, rfl⟩) n hn)))
        have hDi : D i = .agg [z0.1, z1.1] := congrArg Prod.fst hz
        obtain ⟨d0, d1, d2, d3, d4, rfl⟩ := list5 hcl
        have r0 : DataW.trod enc Tryz.prog W base spare held n2 9 (([d0, d1, d2, d3, d4].drop 0).take (Tryz.prog.cellsOf 9)) = some z0 := q0
        have r1 : DataW.trod enc Tryz.prog W base spare held n2 32 (([d0, d1, d2, d3, d4].drop 1).take (Tryz.prog.cellsOf 32)) = some z1 := q1
        rw [k1] at r0
        rw [k4] at r1
        replace r0 : DataW.trod enc Tryz.prog W base spare held n2 9 [d0] = some z0 := r0
        replace r1 : DataW.trod enc Tryz.prog W base spare held n2 32 [d1, d2, d3, d4] = some z1 := r1
        obtain ⟨sn, en, hzn, -⟩ := DataW.trod_string Tryz.underlying9 r0
        simp only [List.cons.injEq, and_true] at en
        subst en
        have hsz : SizeOf.sizeOf z1.1 ≤ m := by
          have h1 : SizeOf.sizeOf (D i) < SizeOf.sizeOf ((List.range len).map D) := List.sizeOf_lt_of_mem (List.mem_map.2 ⟨i, List.mem_range.2 hi, rfl⟩)
          have h2 : SizeOf.sizeOf y3.1 = 1 + SizeOf.sizeOf ((List.range len).map D) + SizeOf.sizeOf r := by rw [hy3]; simp
          have h3 : SizeOf.sizeOf (D i) = SizeOf.sizeOf (DataW.agg [z0.1, z1.1]) := by rw [hDi]
          simp at h3
          omega
        obtain ⟨t, ht', hok⟩ := ih hsz r1 (fun n hn => hwi n (by
          rw [hDi]
          simp only [DataW.weights, Tryz.underlying85]
          simp only [List.map_cons, List.map_nil, DataW.weightsEach, List.mem_append]
          exact .inr (.inl hn)))
        have hns : sn.size ≤ reachBytes := hwi _ (by
          rw [hDi]
          simp only [DataW.weights, Tryz.underlying85]
          simp only [List.map_cons, List.map_nil, DataW.weightsEach, List.mem_append]
          refine .inl ?_
          rw [congrArg Prod.fst hzn]
          simp [DataW.weights])
        refine ⟨(sn, t), b, off, e, hb, fun j hj => ?_, hns, hok⟩
        rw [← ht', hcell j (by simpa using hj), List.getElem?_eq_getElem (by simpa using hj)])
      refine ⟨.mk s0 s1 b2 (.slice (some ad) len cap) L, rfl, Tr.Ok.mk' ?_ ?_ ?_⟩
      · simp only [Tr.v, Tr.kids]
        refine ⟨some ad, cap, by rw [hL], by rw [kcells_len], by omega, hcm, ?_⟩
        by_cases h0 : len = 0
        · exact .inl (by omega)
        · right
          obtain ⟨b, off, rfl, hb, -⟩ := hp 0 (by omega)
          refine ⟨b, off, rfl, hb, fun j hj => ?_⟩
          have hlk := kcells_len L
          have hi5 : j / 5 < L.length := by omega
          obtain ⟨b', off', e, -, hcj, -⟩ := hp (j / 5) hi5
          simp only [Addr.mk.injEq] at e
          obtain ⟨rfl, rfl, -⟩ := e
          have hc := hcj (j % 5) (by omega)
          rw [Nat.add_assoc, show j / 5 * 5 + j % 5 = j by omega] at hc
          rw [hc, ← List.getElem?_eq_getElem hj]
          obtain ⟨q0, q1, q2, q3, q4⟩ := kcells_at L (j / 5) hi5
          have hj5 : j % 5 = 0 ∨ j % 5 = 1 ∨ j % 5 = 2 ∨ j % 5 = 3 ∨ j % 5 = 4 := by omega
          rcases hj5 with h5 | h5 | h5 | h5 | h5
          · rw [h5, show (kcells L)[j]? = (kcells L)[j / 5 * 5]? by rw [show j / 5 * 5 = j by omega], q0]; rfl
          · rw [h5, show (kcells L)[j]? = (kcells L)[j / 5 * 5 + 1]? by rw [show j / 5 * 5 + 1 = j by omega], q1]; rfl
          · rw [h5, show (kcells L)[j]? = (kcells L)[j / 5 * 5 + 2]? by rw [show j / 5 * 5 + 2 = j by omega], q2]; rfl
          · rw [h5, show (kcells L)[j]? = (kcells L)[j / 5 * 5 + 3]? by rw [show j / 5 * 5 + 3 = j by omega], q3]; rfl
          · rw [h5, show (kcells L)[j]? = (kcells L)[j / 5 * 5 + 4]? by rw [show j / 5 * 5 + 4 = j by omega], q4]; rfl
      · intro y hy
        obtain ⟨i, hi, rfl⟩ := List.getElem_of_mem hy
        obtain ⟨_, _, _, _, _, h1, _⟩ := hp i hi
        exact h1
      · intro y hy
        obtain ⟨i, hi, rfl⟩ := List.getElem_of_mem hy
        obtain ⟨_, _, _, _, _, _, h1⟩ := hp i hi
        exact h1
end
end Go.Proofs.YtoemahhpheobkaaGreatDoor

namespace Go.Proofs.YtoemahhpheobkaaGreatDoor
open Go.ChangeShapes Go.WideShapes Go.ChangeAt Go.RowKit Go.Deep

theorem handed_all {H : Type} {enc : TypeId × Value → H} {C : Checked} {os : Os} {f : FuncId} {fn : Func} {s : ChangeSpec} {conds : List PathCond} {apart fresh handsOn again : Bool} {X : World → Array Value → Prop}
    (hX : ∀ (w w' : World) (args : Array Value), w.heap = w'.heap → X w args → X w' args) (own : ownKnob C.prog.godebug = none) (started : os.Started) (noInit : C.prog.inits.idxOf? f = none) (hfn : C.prog.funcs[f]? = some fn)
    (witness : ∃ (w : World) (tape : Tape) (i : Input), w.os = os ∧ (w.forCall tape i).Shaped C.prog ∧ i.vars = [] ∧ Input.okWide C.prog (w.forCall tape i) .any w.heap.size f i ∧
      ((s.pre enc C.prog fn conds apart (w.forCall tape i).memory i.args ∧ X (w.forCall tape i).memory i.args) ∧ sizedMet enc C.prog fn (OpenSpec.ofChange s) apart (w.forCall tape i).memory i.args) ∧ Assume.holds {} C.prog (lone (Frame.enter C.prog f i.args .normal) [] (w.forCall tape i)))
    (contract : ∀ (W : World) (base : Nat) (args : Array Value) (ds gs : List (DataW H)) (before : List MemPlace),
      (∀ (j : Nat) t v, fn.params[j]? = some t → args[j]? = some v → Value.okWide C.prog W .any base t v) →
      DataW.Whole enc C.prog fn.params.toList s.vars apart W args.toList ds gs before →
      (DataW.weightsEach C.prog (fn.params.toList ++ s.plain.varTypes C.prog) (ds ++ gs)).all (· ≤ reachBytes) = true → X W args → W.ShapedOpen C.prog →
      Calls C.prog f args W fun e W' => ∃ v, e = .returned v ∧ s.post enc C.prog fn apart fresh handsOn again W args v W') :
    ReturnsInHanded {} C os f .any (fun w args => (s.pre enc C.prog fn conds apart w args ∧ X w args) ∧ sizedMet enc C.prog fn (OpenSpec.ofChange s) apart w args) (s.post enc C.prog fn apart fresh handsOn again) := by
  refine returnsInHanded_of_calls own started noInit witness ?_
  intro w tape i _ hsh _ hok hpre _
  obtain ⟨_, _, _, fn', hfn', _, _, _, _, hval⟩ := hok
  obtain rfl : fn' = fn := Option.some.inj (hfn'.symm.trans hfn)
  obtain ⟨⟨⟨ds, gs, before, hw, -⟩, hx⟩, hz⟩ := hpre
  refine (contract (w.forCall tape i) w.heap.size i.args ds gs before hval (DataW.Whole.of_heap (w' := w.forCall tape i) (by rfl) hw) (hz.weights hw) (hX _ _ _ (by rfl) hx) hsh).mono fun e W' ⟨v, he, hp⟩ => ?_
  subst he
  exact ChangeSpec.post_blind hp

/-- A text by value is no longer than memory reaches. -/
theorem str_reach {H : Type} {enc : TypeId × Value → H} {W : World} {base : Nat} {spare : Nat → Bool} {held : Bool} {s : ByteArray} {d : DataW H} {p : List MemPlace}
    (h : DataW.Trod enc Tryz.prog W base spare held 9 (.string s) d p) (hw : ∀ n ∈ d.weights Tryz.prog 9, n ≤ reachBytes) : s.size ≤ 9223372036854775807 := by
  obtain ⟨m, hm⟩ := h
  obtain ⟨s', e, hx, -⟩ := DataW.trod_string Tryz.underlying9 hm
  have e' : s = s' := by
    have e2 : [Value.string s] = [Value.string s'] := e
    simpa using e2
  subst e'
  have := hw s.size (by
    rw [show d = DataW.lit (Lit.string s.data.toList) from congrArg Prod.fst hx]
    simp [DataW.weights])
  unfold reachBytes at this
  omega
end Go.Proofs.YtoemahhpheobkaaGreatDoor
