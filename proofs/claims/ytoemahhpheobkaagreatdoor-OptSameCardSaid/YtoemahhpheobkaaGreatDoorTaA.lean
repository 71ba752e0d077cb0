/- An argument that is a slice of acts on trees. No condition. -/
import Derived.Test.YtoemahhpheobkaaGreatDoorDlP
import Derived.Test.YtoemahhpheobkaaGreatDoorHs
namespace Go.Proofs.YtoemahhpheobkaaGreatDoor
open Go.ChangeShapes Go.WideShapes Go.ChangeAt Go.RowKit Go.Deep Go.Joins

section
variable {H : Type} {enc : TypeId × Value → H} {W : World} {base : Nat} {spare : Nat → Bool} {held : Bool}
theorem list10' {α : Type _} {l : List α} (h : l.length = 10) : ∃ a0 a1 a2 a3 a4 a5 a6 a7 a8 a9, l = [a0, a1, a2, a3, a4, a5, a6, a7, a8, a9] := by
  match l, h with
  | [a0, a1, a2, a3, a4, a5, a6, a7, a8, a9], _ => exact ⟨a0, a1, a2, a3, a4, a5, a6, a7, a8, a9, rfl⟩
theorem list7' {α : Type _} {l : List α} (h : l.length = 7) : ∃ a0 a1 a2 a3 a4 a5 a6, l = [a0, a1, a2, a3, a4, a5, a6] := by
  match l, h with
  | [a0, a1, a2, a3, a4, a5, a6], _ => exact ⟨a0, a1, a2, a3, a4, a5, a6, rfl⟩
set_option maxRecDepth 100000 in
theorem acts_of {fuel : Nat} {c3 : Value} {x : DataW H × List MemPlace} (g3 : DataW.trod enc Tryz.prog W base spare held fuel 22 [c3] = some x) (hw3 : ∀ n ∈ x.1.weights Tryz.prog 22, n ≤ reachBytes) :
    ∃ ls : List Ta, TaI ls c3 W := by
  have k1 : Tryz.prog.cellsOf 9 = 1 := by kernel_rfl
  have ki : Tryz.prog.cellsOf 3 = 1 := by kernel_rfl
  have k4 : Tryz.prog.cellsOf 32 = 4 := by kernel_rfl
  have k10 : Tryz.prog.cellsOf 34 = 10 := by kernel_rfl
  have hsh : c3 = .slice none 0 0 ∨ ∃ ad len cap, c3 = .slice (some ad) len cap := by
    rcases open_slice Tryz.underlying22 g3 with ⟨hcs, -⟩ | ⟨ad, len, cap, _, _, _, _, hcs, _⟩
    · exact .inl (by simpa using hcs)
    · exact .inr ⟨ad, len, cap, by simpa using hcs⟩
  rcases hsh with rfl | ⟨ad, len, cap, rfl⟩
  · exact ⟨[], Sl.nil _ 10, fun c hc => (by cases hc), fun c hc => (by cases hc)⟩
  · obtain ⟨hlc, hcm, D, Pl, r, hy3, hel⟩ := elems_data (c := 10) Tryz.underlying22 k10 (by decide) g3
    obtain ⟨L, hL, hp⟩ := list_of_lt (p := fun i (q : Ta) => ∃ b off, ad = ⟨b, off, none⟩ ∧ b < W.heap.size ∧ (∀ j (hj : j < 10), W.cell? ⟨b, off + i * 10 + j, none⟩ = (tacell q)[j]?) ∧ q.n.Ok W ∧ K64 q.k ∧ K64 q.m) len (fun i hi => by
      obtain ⟨b, off, n', cs', e, hb, hcl, hcell, ht⟩ := hel i hi
      obtain ⟨xs, n2, -, hz, -, hxl, hf⟩ := DataW.trod_struct Tryz.underlying34 ht
      have hwi : ∀ n ∈ (D i).weights Tryz.prog 34, n ≤ reachBytes := fun n hn => hw3 n (by
        rw [hy3]
        simp only [DataW.weights, Tryz.underlying22]
        exact List.mem_cons_of_mem _ (List.mem_append_left _ (weights_all (List.mem_map.2 ⟨i, List.mem_range.2 hi, rfl⟩) n hn)))
      have hDi : D i = .agg (xs.map (·.1)) := congrArg Prod.fst hz
      obtain ⟨z0, z1, z2, z3, z4, z5, z6, rfl⟩ := list7' hxl
      obtain ⟨d0, d1, d2, d3, d4, d5, d6, d7, d8, d9, rfl⟩ := list10' hcl
      have r0 : DataW.trod enc Tryz.prog W base spare held n2 9 (([d0, d1, d2, d3, d4, d5, d6, d7, d8, d9].drop 0).take (Tryz.prog.cellsOf 9)) = some z0 := hf 0 _ rfl
      have r1 : DataW.trod enc Tryz.prog W base spare held n2 9 (([d0, d1, d2, d3, d4, d5, d6, d7, d8, d9].drop 1).take (Tryz.prog.cellsOf 9)) = some z1 := hf 1 _ rfl
      have r2 : DataW.trod enc Tryz.prog W base spare held n2 9 (([d0, d1, d2, d3, d4, d5, d6, d7, d8, d9].drop 2).take (Tryz.prog.cellsOf 9)) = some z2 := hf 2 _ rfl
      have r3 : DataW.trod enc Tryz.prog W base spare held n2 32 (([d0, d1, d2, d3, d4, d5, d6, d7, d8, d9].drop 3).take (Tryz.prog.cellsOf 32)) = some z3 := hf 3 _ rfl
      have r4 : DataW.trod enc Tryz.prog W base spare held n2 3 (([d0, d1, d2, d3, d4, d5, d6, d7, d8, d9].drop 7).take (Tryz.prog.cellsOf 3)) = some z4 := hf 4 _ rfl
      have r5 : DataW.trod enc Tryz.prog W base spare held n2 3 (([d0, d1, d2, d3, d4, d5, d6, d7, d8, d9].drop 8).take (Tryz.prog.cellsOf 3)) = some z5 := hf 5 _ rfl
      have r6 : DataW.trod enc Tryz.prog W base spare held n2 3 (([d0, d1, d2, d3, d4, d5, d6, d7, d8, d9].drop 9).take (Tryz.prog.cellsOf 3)) = some z6 := hf 6 _ rfl
      rw [k1] at r0 r1 r2
      rw [k4] at r3
      rw [ki] at r4 r5 r6
      replace r0 : DataW.trod enc Tryz.prog W base spare held n2 9 [d0] = some z0 := r0
      replace r1 : DataW.trod enc Tryz.prog W base spare held n2 9 [d1] = some z1 := r1
      replace r2 : DataW.trod enc Tryz.prog W base spare held n2 9 [d2] = some z2 := r2
      replace r3 : DataW.trod enc Tryz.prog W base spare held n2 32 [d3, d4, d5, d6] = some z3 := r3
      replace r4 : DataW.trod enc Tryz.prog W base spare held n2 3 [d7] = some z4 := r4
      replace r5 : DataW.trod enc Tryz.prog W base spare held n2 3 [d8] = some z5 := r5
      replace r6 : DataW.trod enc Tryz.prog W base spare held n2 3 [d9] = some z6 := r6
      obtain ⟨s0, e0, -⟩ := DataW.trod_string Tryz.underlying9 r0
      obtain ⟨s1, e1, -⟩ := DataW.trod_string Tryz.underlying9 r1
      obtain ⟨s2, e2, -⟩ := DataW.trod_string Tryz.underlying9 r2
      obtain ⟨i4, e4, -, w4⟩ := DataW.trod_int Tryz.underlying3 r4
      obtain ⟨i5, e5, -, w5⟩ := DataW.trod_int Tryz.underlying3 r5
      obtain ⟨i6, e6, -, -⟩ := DataW.trod_int Tryz.underlying3 r6
      simp only [List.cons.injEq, and_true] at e0 e1 e2 e4 e5 e6
      subst e0 e1 e2 e4 e5 e6
      obtain ⟨t, ht', hok⟩ := node_of _ (Nat.le_refl _) r3 (fun n hn => hwi n (by
        rw [hDi]
        simp only [DataW.weights, Tryz.underlying34]
        exact DataW.weights_mem_each (j := 3) rfl rfl n hn))
      have w4' : K64 i4 := by
        simp [Lit.wf, IntKind.min, IntKind.max, IntKind.signed, IntKind.bits] at w4
        exact ⟨by omega, by omega⟩
      have w5' : K64 i5 := by
        simp [Lit.wf, IntKind.min, IntKind.max, IntKind.signed, IntKind.bits] at w5
        exact ⟨by omega, by omega⟩
      refine ⟨⟨s0, s1, s2, t, i4, i5, i6⟩, b, off, e, hb, fun j hj => ?_, hok, w4', w5'⟩
      have e10 : tacell ⟨s0, s1, s2, t, i4, i5, i6⟩ = [.string s0, .string s1, .string s2, d3, d4, d5, d6, .int .i64 i4, .int .i64 i5, .int .i64 i6] := by
        have h1 : tacell ⟨s0, s1, s2, t, i4, i5, i6⟩ = [.string s0, .string s1, .string s2] ++ ncells t ++ [.int .i64 i4, .int .i64 i5, .int .i64 i6] := rfl
        rw [h1, ← ht']; rfl
      rw [e10, hcell j (by simpa using hj), List.getElem?_eq_getElem (by simpa using hj)])
    refine ⟨L, ⟨some ad, cap, by rw [hL], by rw [tacells_len], by omega, hcm, ?_⟩, ?_, ?_⟩
    · by_cases h0 : len = 0
      · exact .inl (by omega)
      · right
        obtain ⟨b, off, rfl, hb, -⟩ := hp 0 (by omega)
        refine ⟨b, off, rfl, hb, fun j hj => ?_⟩
        have hlk := tacells_len L
        have hi6 : j / 10 < L.length := by omega
        obtain ⟨b', off', e, -, hcj, -⟩ := hp (j / 10) hi6
        simp only [Addr.mk.injEq] at e
        obtain ⟨rfl, rfl, -⟩ := e
        have hc := hcj (j % 10) (by omega)
        rw [Nat.add_assoc, show j / 10 * 10 + j % 10 = j by omega] at hc
        rw [hc, ← List.getElem?_eq_getElem hj]
        have h7 := tacells_at L (j / 10) hi6 (j % 10) (by omega)
        rw [show j / 10 * 10 + j % 10 = j by omega] at h7
        exact h7.symm
    · intro y hy
      obtain ⟨i, hi, rfl⟩ := List.getElem_of_mem hy
      obtain ⟨_, _, _, _, _, h1, _⟩ := hp i hi
      exact h1
    · intro y hy
      obtain ⟨i, hi, rfl⟩ := List.getElem_of_mem hy
      obtain ⟨_, _, _, _, _, _, h1⟩ := hp i hi
      exact h1
theorem acts_arg {a : Option Addr} {len cap : Nat} {d : DataW H} {p : List MemPlace} (h : DataW.Trod enc Tryz.prog W base spare held 22 (.slice a len cap) d p) (hw : ∀ n ∈ d.weights Tryz.prog 22, n ≤ reachBytes) : ∃ ls : List Ta, TaI ls (.slice a len cap) W := by
  obtain ⟨m, hm⟩ := h
  exact acts_of (c3 := .slice a len cap) (x := (d, p)) hm hw
end
end Go.Proofs.YtoemahhpheobkaaGreatDoor
