/- The closed fact of the trees' statements. Condition: the variables read as listed. -/
import Derived.Test.YthnlaigabefidaaGreatDoorTrB
import Derived.Test.YthnlaigabefidaaGreatDoorTrI
import Derived.Test.YthnlaigabefidaaGreatDoorCoded
namespace Go.Proofs.YthnlaigabefidaaGreatDoor
open Go.RowKit Go.Shelf

/-- A dir of a file. -/
def T0 (v : Value) : Lt := .mk ⟨#[100, 105, 114]⟩ ⟨#[]⟩ false v [(⟨#[97]⟩, .mk ⟨#[102, 105, 108, 101]⟩ ⟨#[120, 121]⟩ false (.slice none 0 0) [])]
theorem t0e (v : Value) : treeE (T0 v) = 0 := rfl
theorem t0l (v : Value) : (listed (T0 v)).length = 2 := by unfold listed; rw [if_pos (t0e v)]; rfl
theorem t0s (v : Value) : fileSz (listed (T0 v)) = 2 := by unfold listed; rw [if_pos (t0e v)]; rfl
theorem t0f (v : Value) : fileL (listed (T0 v)) = [⟨#[47, 97]⟩] := by unfold listed; rw [if_pos (t0e v)]; rfl
theorem t0ok (w : World) : (T0 (.slice (some ⟨w.heap.size, 0, none⟩) 1 1)).Ok (w.alloc (.cells #[.string ⟨#[97]⟩, .string ⟨#[102, 105, 108, 101]⟩, .string ⟨#[120, 121]⟩, .bool false, .slice none 0 0] 56)) := by
  refine Tr.Ok.mk' ?_ ?_ ?_
  · exact Sl.new w [.string ⟨#[97]⟩, .string ⟨#[102, 105, 108, 101]⟩, .string ⟨#[120, 121]⟩, .bool false, .slice none 0 0] 56 5 rfl
  · intro x hx
    simp only [T0, Tr.kids, List.mem_cons, List.not_mem_nil, or_false] at hx
    subst hx; decide
  · intro x hx
    simp only [T0, Tr.kids, List.mem_cons, List.not_mem_nil, or_false] at hx
    subst hx
    exact Tr.Ok.mk' (Sl.nil _ 5) (by intro y hy; cases hy) (by intro y hy; cases hy)

set_option maxRecDepth 100000 in
set_option maxHeartbeats 4000000 in
theorem treed_true (E : Nat → Addr) (B : Nat) (w : World) (hE : Env codeGs B w E) (hh : Hnd w) :
    Calls Tryz.prog 6 #[] w fun e w' => e = .returned (.bool true) ∧ Below w.heap.size w w' := by
  have hB2 : Below w.heap.size w ((w.alloc (.cells #[.string ⟨#[97]⟩, .string ⟨#[102, 105, 108, 101]⟩, .string ⟨#[120, 121]⟩, .bool false, .slice none 0 0] 56)).alloc (.cells #[.string ⟨#[100, 105, 114]⟩, .string ⟨#[]⟩, .bool false, .slice (some ⟨w.heap.size, 0, none⟩) 1 1] 24)) := ((Below.refl _ _).alloc (Nat.le_refl _) _).alloc (by simp) _
  have ht2 := (t0ok w).alloc (.cells #[.string ⟨#[100, 105, 114]⟩, .string ⟨#[]⟩, .bool false, .slice (some ⟨w.heap.size, 0, none⟩) 1 1] 24)
  have hb2 := Blk.new (w.alloc (.cells #[.string ⟨#[97]⟩, .string ⟨#[102, 105, 108, 101]⟩, .string ⟨#[120, 121]⟩, .bool false, .slice none 0 0] 56)) [.string ⟨#[100, 105, 114]⟩, .string ⟨#[]⟩, .bool false, .slice (some ⟨w.heap.size, 0, none⟩) 1 1] 24
  rw [show (w.alloc (.cells #[.string ⟨#[97]⟩, .string ⟨#[102, 105, 108, 101]⟩, .string ⟨#[120, 121]⟩, .bool false, .slice none 0 0] 56)).heap.size = w.heap.size + 1 by simp] at hb2
  have hE2 := hE.ob hB2
  have hh2 := hh.below hB2 (Nat.le_refl _)
  have HK := hidd (fun W (h : (T0 (.slice (some ⟨w.heap.size, 0, none⟩) 1 1)).Ok W) (hE : Env codeGs B W E) => check_any E B _ W h hE)
  have HN := hidd (fun W (h : (T0 (.slice (some ⟨w.heap.size, 0, none⟩) 1 1)).Ok W) (hE : Env codeGs B W E) => count_any E B _ W h hE)
  have HZ := hidd (fun W (h : (T0 (.slice (some ⟨w.heap.size, 0, none⟩) 1 1)).Ok W) (hE : Env codeGs B W E) => size_any E B _ W h hE)
  have HF := hidd (fun W (h : (T0 (.slice (some ⟨w.heap.size, 0, none⟩) 1 1)).Ok W) (hE : Env codeGs B W E) => files_any E B _ W h hE)
  simp only [t0e, evc_zero] at HK
  simp only [t0l] at HN
  simp only [t0s] at HZ
  simp only [t0f] at HF
  simp only [nval, T0, Tr.kind, Tr.data, Tr.exec, Tr.v] at HK HN HZ HF
  have HO := hidd ht2
  clear ht2 hE hh
  go_enter Tryz.func6, Tryz.ntmps6
  go_wp2_with fail
  refine (HK.out _ HO.out hE2).mono ?_
  rintro e w3 ⟨rfl, hb3⟩
  have hE3 := hE2.ob hb3
  have hh3 := hh2.below hb3 (Nat.le_refl _)
  have HO3 := hidd (HO.out.ob hb3)
  have hk3 := hb2.below hb3 hb2.lt
  have hB3 := hB2.trans (hb3.mono hB2.size)
  clear hE2 hh2 HO hb2 hb3 hB2
  go_wp2_with fail
  refine (coded1 E B _ hE3 hh3 .nilIface 0 (.inl ⟨rfl, rfl⟩) 0).mono ?_
  rintro e w4 ⟨rfl, hb4⟩
  have hE4 := hE3.ob hb4
  have HO4 := hidd (HO3.out.ob hb4)
  have hk4 := hk3.below hb4 hk3.lt
  have x0 := hk4.cell (i := 0) rfl
  have x1 := hk4.cell (i := 1) rfl
  have x2 := hk4.cell (i := 2) rfl
  have x3 := hk4.cell (i := 3) rfl
  have hB4 := hB3.trans (hb4.mono hB3.size)
  rw [show decide (((0 : Nat) : Int) = 0) = true from rfl]
  clear hE3 hh3 HO3 hk3 hb4 hB3
  go_wp2_with fail
  refine (HN.out _ HO4.out hE4).mono ?_
  rintro e w5 ⟨rfl, hb5⟩
  have hE5 := hE4.ob hb5
  have HO5 := hidd (HO4.out.ob hb5)
  have hk5 := hk4.below hb5 hk4.lt
  have y0 := hk5.cell (i := 0) rfl
  have y1 := hk5.cell (i := 1) rfl
  have y2 := hk5.cell (i := 2) rfl
  have y3 := hk5.cell (i := 3) rfl
  have hB5 := hB4.trans (hb5.mono hB4.size)
  clear hE4 HO4 hk4 hb5 hB4 x0 x1 x2 x3
  go_wp2_with fail
  refine (HZ.out _ HO5.out hE5).mono ?_
  rintro e w6 ⟨rfl, hb6⟩
  have hE6 := hE5.ob hb6
  have HO6 := hidd (HO5.out.ob hb6)
  have hk6 := hk5.below hb6 hk5.lt
  have z0 := hk6.cell (i := 0) rfl
  have z1 := hk6.cell (i := 1) rfl
  have z2 := hk6.cell (i := 2) rfl
  have z3 := hk6.cell (i := 3) rfl
  have hB6 := hB5.trans (hb6.mono hB5.size)
  clear hE5 HO5 hk5 hb6 hB5 y0 y1 y2 y3
  go_wp2_with fail
  refine (HF.out _ HO6.out hE6).mono ?_
  rintro e w7 ⟨v, rfl, ho7, hb7⟩
  have hB7 := hB6.trans (hb7.mono hB6.size)
  obtain ⟨va, vc, rfl⟩ := ho7.shape
  have hs1 := (ho7.alloc (.cells #[.string ⟨#[47, 97]⟩] 9)).sl
  have hs2 : Sl (w7.alloc (.cells #[.string ⟨#[47, 97]⟩] 9)) (.slice (some ⟨w7.heap.size, 0, none⟩) 1 1) (tcells [⟨#[47, 97]⟩]) [(⟨#[47, 97]⟩ : ByteArray)].length 1 := Sl.new w7 [.string ⟨#[47, 97]⟩] 9 1 rfl
  have hB8 := hB7.alloc hB7.size (.cells #[.string ⟨#[47, 97]⟩] 9)
  clear hE6 HO6 hk6 hb7 hB6 ho7 hB7
  go_wp2_with fail
  refine (sameTexts_any _ _ _ _ _ hs1 hs2).mono ?_
  rintro e w9 ⟨rfl, hb9⟩
  rw [show decide ([(⟨#[47, 97]⟩ : ByteArray)] = [⟨#[47, 97]⟩]) = true from decide_eq_true rfl]
  have hB9 := hB8.trans (hb9.mono hB8.size)
  clear hs1 hs2 hb9 hB8
  go_wp2_with fail
  go_ret
  exact ⟨rfl, hB9⟩
end Go.Proofs.YthnlaigabefidaaGreatDoor
