/- The closed fact of the statements on packs: one needs another one. Condition: the variables read as listed. -/
import Derived.Test.YtlcabkhalockpaaGreatDoorQg
import Derived.Test.YtlcabkhalockpaaGreatDoorCoded
namespace Go.Proofs.YtlcabkhalockpaaGreatDoor
open Go.RowKit Go.Shelf Go.Maps

def nA : ByteArray := ⟨#[97]⟩
def nB : ByteArray := ⟨#[98]⟩
/-- Two packs, of which one needs the other. -/
def l0 (b : Nat) : List Pv := [⟨nA, none, 0, [], ⟨#[]⟩, ⟨#[]⟩, false, none, 0, 0⟩, ⟨nB, some ⟨b, 0, none⟩, 1, [nA], ⟨#[]⟩, ⟨#[]⟩, false, none, 0, 0⟩]
theorem l0_pn (b : Nat) : pnL (l0 b) = [(nA, []), (nB, [nA])] := rfl
theorem l0_e : packsE [(nA, []), (nB, [nA])] = (0, -1) := by decide +kernel
theorem l0_good : Good [(nA, []), (nB, [nA])] := good_of (by rw [l0_e])
theorem l0_close (b : Nat) : closE (l0 b) [nB] = (0, -1) := by
  unfold closE
  rw [l0_pn, l0_e, if_pos rfl, if_pos (by show (List.all [nB] fun s => inB s [nA, nB]) = true; decide +kernel)]
theorem l0_clo : Clo [(nA, []), (nB, [nA])] [nB] [nA, nB] := by
  refine ⟨rising_up.1 (by decide +kernel), fun s => ⟨fun hs => ?_, fun hs => ?_⟩⟩
  · simp only [List.mem_cons, List.not_mem_nil, or_false] at hs
    rcases hs with rfl | rfl
    · exact .step (p := (nB, [nA])) (by simp) (.base (by simp)) (by simp)
    · exact .base (by simp)
  · induction hs with
    | base k => simp only [List.mem_singleton] at k; subst k; simp
    | step hp _ hs _ =>
      simp only [List.mem_cons, List.not_mem_nil, or_false] at hp
      rcases hp with rfl | rfl
      · cases hs
      · simp only [List.mem_singleton] at hs; subst hs; simp
theorem l0_in (b : Nat) (W : World) (c : Nat) (hb : Blk W b [.string nA] 9) (hc : Blk W c (pkcells (l0 b)) 49) : PkI (l0 b) (.slice (some ⟨c, 0, none⟩) 2 2) W := by
  refine ⟨⟨_, _, rfl, rfl, Nat.le_refl _, by unfold maxLen; omega, .inr ⟨c, 0, rfl, hc.lt, fun j hj => ?_⟩⟩, fun p hp => ?_⟩
  · rw [Nat.zero_add]
    exact hc.cell (List.getElem?_eq_getElem hj)
  · simp only [l0, List.mem_cons, List.not_mem_nil, or_false] at hp
    rcases hp with rfl | rfl
    · exact ⟨Sl.nil _ _, by unfold Sz; decide +kernel, fun _ h => by cases h⟩
    · refine ⟨⟨_, _, rfl, rfl, Nat.le_refl _, by show (1 : Nat) ≤ maxLen; unfold maxLen; omega, .inr ⟨b, 0, rfl, hb.lt, fun j hj => ?_⟩⟩, by show Sz nB; unfold Sz; decide +kernel, fun s h => ?_⟩
      · have : j = 0 := by simp [tcells] at hj; omega
        subst this
        exact hb.cell (i := 0) rfl
      · simp only [List.mem_singleton] at h; subst h; unfold Sz; decide +kernel
set_option maxRecDepth 100000 in
set_option maxHeartbeats 8000000 in
theorem needed_true (E : Nat → Addr) (B : Nat) (w : World) (hE : Env codeGs B w E) (hH : Hnd w) :
    Calls Tryz.prog 6 #[] w fun e w' => e = .returned (.bool true) ∧ Below w.heap.size w w' := by
  have hb1 : Below w.heap.size w (w.alloc (.cells #[.string nA] 9)) := (Below.refl _ _).alloc (Nat.le_refl _) _
  have hb2 : Below w.heap.size w ((w.alloc (.cells #[.string nA] 9)).alloc (.cells (pkcells (l0 w.heap.size)).toArray 49)) := hb1.alloc hb1.size _
  have k1 := Blk.new w [.string nA] 9
  have k2 := Blk.new (w.alloc (.cells #[.string nA] 9)) (pkcells (l0 w.heap.size)) 49
  have k1' : Blk ((w.alloc (.cells #[.string nA] 9)).alloc (.cells (pkcells (l0 w.heap.size)).toArray 49)) w.heap.size [.string nA] 9 := k1.below ((Below.refl _ _).alloc (Nat.le_refl _) _) k1.lt
  rw [World.size_alloc] at k2
  have hP := l0_in _ _ _ k1' k2
  have hb3 : Below w.heap.size w (((w.alloc (.cells #[.string nA] 9)).alloc (.cells (pkcells (l0 w.heap.size)).toArray 49)).alloc (.cells #[.string nB] 9)) := hb2.alloc hb2.size _
  have hs3 := sl1 ((w.alloc (.cells #[.string nA] 9)).alloc (.cells (pkcells (l0 w.heap.size)).toArray 49)) nB
  have HCL := hidd (closure_any E B (l0 w.heap.size) [nB] _ _ _ (hP.ob ((Below.refl _ _).alloc (Nat.le_refl _) _)) ⟨hs3, fun s hs => by simp only [List.mem_singleton] at hs; subst hs; unfold Sz; decide +kernel⟩ (hE.ob hb3) (by simp))
  have HCK := hidd (fun W (hW : Below (((w.alloc (.cells #[.string nA] 9)).alloc (.cells (pkcells (l0 w.heap.size)).toArray 49)).alloc (.cells #[.string nB] 9)).heap.size (((w.alloc (.cells #[.string nA] 9)).alloc (.cells (pkcells (l0 w.heap.size)).toArray 49)).alloc (.cells #[.string nB] 9)) W) => rCheck_any E B (l0 w.heap.size) _ W ((hP.ob ((Below.refl _ _).alloc (Nat.le_refl _) _)).ob hW) (hE.ob (hb3.trans (hW.mono hb3.size))))
  have HB3 := hidd hb3
  unfold CloP at HCL
  rw [l0_pn, l0_close] at HCL
  rw [l0_pn, l0_e] at HCK
  rw [World.size_alloc, World.size_alloc] at HCL
  have HE := hidd (fun W (hW : Below w.heap.size w W) => hE.ob hW)
  have HH := hidd (fun W (hW : Below w.heap.size w W) => hH.below hW (Nat.le_refl _))
  clear hP k1 k2 k1' hb1 hE hH hs3 hb2 hb3
  go_enter Tryz.func6, Tryz.ntmps6
  go_wp2_with fail
  refine HCL.out.mono ?_
  rintro e w3 ⟨c, ca, ck, ev, rfl, hf, htx, hb4, hok, -⟩
  obtain ⟨-, -, hclo⟩ := hok trivial
  obtain rfl := FaV.nil hf
  obtain rfl := l0_clo.one hclo
  have hB4 := HB3.out.trans (hb4.mono HB3.out.size)
  have HCK2 := hidd (HCK.out w3 hb4)
  have HTX := hidd htx
  clear hf hok hclo HCL HCK htx hb4 HB3
  go_wp2_with fail
  refine HCK2.out.mono ?_
  rintro e w4 ⟨ev, rfl, hf, hb5⟩
  obtain rfl := FaV.nil hf
  have hB5 := below_step hB4 hb5
  have HCO := hidd (coded3 E B w4 (HE.out _ hB5) (HH.out _ hB5) .nilIface 0 (.inl ⟨rfl, rfl⟩) 0)
  have HTX2 := hidd (HTX.out.ob hb5)
  clear hf HCK2 hb5 HTX
  go_wp2_with fail
  refine HCO.out.mono ?_
  rintro e w5 ⟨rfl, hb6⟩
  have hB6 := below_step hB5 hb6
  have HTX3 := hidd (HTX2.out.ob hb6)
  clear HCO hb6 HTX2
  go_wp2_with fail
  have hs5 : Sl (w5.alloc (.cells #[.string nA, .string nB] 9)) (.slice (some ⟨w5.heap.size, 0, none⟩) 2 2) (tcells [nA, nB]) [nA, nB].length 1 :=
    ⟨_, _, rfl, rfl, Nat.le_refl _, by show (2 : Nat) ≤ maxLen; unfold maxLen; omega, .inr ⟨w5.heap.size, 0, rfl, by simp, fun j hj => by
      rw [Nat.zero_add]
      exact (Blk.new w5 [.string nA, .string nB] 9).cell (List.getElem?_eq_getElem hj)⟩⟩
  have hb7 : Below w5.heap.size w5 (w5.alloc (.cells #[.string nA, .string nB] 9)) := (Below.refl _ _).alloc (Nat.le_refl _) _
  refine (sameTexts_any _ _ [nA, nB] [nA, nB] _ (HTX3.out.ob hb7).1 hs5).mono ?_
  rintro e w6 ⟨rfl, hb8⟩
  have hB8 := below_step (below_step hB6 hb7) hb8
  have ht : decide ([nA, nB] = [nA, nB]) = true := decide_eq_true rfl
  rw [ht]
  clear hs5 hb7 hb8
  go_wp2_with fail
  go_ret
  exact ⟨rfl, hB8⟩
end Go.Proofs.YtlcabkhalockpaaGreatDoor
