/- The contract of the reference's TreeError. Condition: the tree is there. -/
import Derived.Test.YtccplkbbaodpeaaDoorRfN
import Derived.Test.YtccplkbbaodpeaaDoorRfP
namespace Go.Proofs.YtccplkbbaodpeaaDoor
open Go.RowKit Go.Shelf

set_option maxRecDepth 100000 in
set_option maxHeartbeats 40000000 in
theorem treeErr_any (t : Lt) (w : World) (ht : t.Ok w) : Calls Tryd.prog 13 #[nval t] w (NodE (treeE t) w) := by
  obtain ⟨a, cap, hv⟩ := ht.shape
  have hB0 : Below w.heap.size w (w.alloc (.cells #[.string t.kind, .string t.data, .bool t.exec, .slice a t.kids.length cap] 24)) := (Below.refl _ _).alloc (Nat.le_refl _) _
  have hC := listOf_any t 200 8 _ (ht.ob hB0) (by omega) (by omega)
  have hsc := listOf_scan t
  obtain ⟨L, hL⟩ : ∃ L, listOf 200 8 t = L := ⟨_, rfl⟩
  obtain ⟨c, hc⟩ : ∃ c, treeE t = c := ⟨_, rfl⟩
  rw [hL] at hC hsc
  rw [hc] at hsc ⊢
  unfold nval at hC ⊢
  rw [hv] at hC ⊢
  have HC := hidd hC
  have HSC := hidd hsc
  clear hC hv ht hL hsc hc
  unfold NodE
  go_enter Tryd.func13, Tryd.ntmps13
  go_wp2_with fail
  refine HC.out.mono ?_
  rintro e w2 ⟨v, rfl, hmany, hown, hok, hb2⟩
  have hB2 := hB0.trans (hb2.mono hB0.size)
  obtain ⟨va, vc, rfl⟩ := hown.shape
  clear hb2 HC hB0
  go_wp2_with fail
  go_loopw [4, 5] (fun s _ wr => ∃ i : Nat, i ≤ L.length ∧ s = .int .i64 (i : Int) ∧ scan 0 (L.take i) = 0 ∧ Below w2.heap.size w2 wr) (fun s _ _ => L.length - (intOf s).toNat)
  case atStart => exact ⟨0, Nat.zero_le _, rfl, rfl, Below.refl _ _⟩
  case round =>
    obtain ⟨i, hi, rfl, hz, hbel⟩ := hrel
    have hsl := (hown.ob hbel).sl
    have hBr := hB2.trans (hbel.mono hB2.size)
    by_cases hlt : i < L.length
    · obtain ⟨b, off, rfl, hb, c0, c1, c2, c3, c4, c5⟩ := sl_at6 hsl hlt
      have hxo := (hok _ (List.getElem_mem hlt)).ob hbel
      obtain ⟨s1, s2⟩ := scan_at hlt hz
      rw [HSC.out] at s1
      have hbd := ownE_bd L[i].n
      have p1 : (0 : Int) ≤ (i : Int) := by omega
      have p2 : (i : Int) < (L.length : Int) := by omega
      obtain ⟨rest, hrest⟩ : ∃ rest, scan (i + 1) (L.drop (i + 1)) = rest := ⟨_, rfl⟩
      rw [hrest] at s1
      generalize L[i] = x at *
      obtain ⟨xa, xc, hxv⟩ := hxo.ok.shape
      obtain ⟨px, dx, ⟨kx, dax, ex, vx, ksx⟩⟩ := x
      have hxk := hxo.ok
      simp only [Tr.v, Tr.kids, Tr.kind, Tr.data, Tr.exec] at hxv c0 c1 c2 c3 c4 c5 hxk s1 s2 hbd
      subst hxv
      have hdp := hxo.deep
      simp only at hdp
      clear hxo hsl hz hrest
      by_cases g1 : 8 < dx
      · have e1 : decide ((8 : Int) < (dx : Int)) = true := decide_eq_true (by omega)
        have HF : Hid (c = 9) := hidd (by rw [s1, if_pos g1])
        clear s1 s2 hxk hbd
        go_wp2_with fail
        go_ret
        exact ⟨by rw [HF.out]; rfl, hBr⟩
      have e1 : decide ((8 : Int) < (dx : Int)) = false := decide_eq_false (by omega)
      by_cases g2 : 200 ≤ i
      · have e2 : decide ((200 : Int) ≤ (i : Int)) = true := decide_eq_true (by omega)
        have HF : Hid (c = 8) := hidd (by rw [s1, if_neg g1, if_pos g2])
        clear s1 s2 hxk hbd
        go_wp2_with fail
        go_ret
        exact ⟨by rw [HF.out]; rfl, hBr⟩
      have e2 : decide ((200 : Int) ≤ (i : Int)) = false := decide_eq_false (by omega)
      have HN := hidd (nodeErr_any _ _ hxk)
      obtain ⟨o, ho⟩ : ∃ o, ownE (Tr.mk kx dax ex (.slice xa ksx.length xc) ksx : Lt) = o := ⟨_, rfl⟩
      rw [ho] at s1 s2 hbd HN
      unfold nval at HN
      simp only [Tr.kind, Tr.data, Tr.exec, Tr.v] at HN
      clear ho hxk
      by_cases g3 : 0 < o
      · have e3 : decide ((0 : Int) < (o : Int)) = true := decide_eq_true (by omega)
        have HF : Hid (c = o) := hidd (by rw [s1, if_neg g1, if_neg g2, if_pos g3])
        clear s1 s2
        go_wp2_with fail
        refine HN.out.mono ?_
        rintro e w4 ⟨rfl, hb4⟩
        go_wp2_with fail
        go_ret
        exact ⟨by rw [HF.out]; rfl, hBr.trans (hb4.mono hBr.size)⟩
      · have e3 : decide ((0 : Int) < (o : Int)) = false := decide_eq_false (by omega)
        have HZ := hidd (s2 g1 g2 g3)
        clear s1 s2
        go_wp2_with fail
        refine HN.out.mono ?_
        rintro e w4 ⟨rfl, hb4⟩
        have hbel4 := hbel.trans (hb4.mono hbel.size)
        clear hb4 HN
        go_wp2_with fail
        go_roundw
        case rel => exact ⟨i + 1, hlt, by go_num, HZ.out, hbel4⟩
        case measure => simp [intOf]; omega
    · have HF : Hid (c = 0) := hidd (by rw [List.take_of_length_le (by omega)] at hz; rw [← HSC.out]; exact hz)
      clear hz hsl
      go_wp2_with fail
      go_ret
      exact ⟨by rw [HF.out]; rfl, hBr⟩
end Go.Proofs.YtccplkbbaodpeaaDoor
