/- The contract of LargeNode. Condition: the tree is there. -/
import Derived.Test.YtoaedkinlnkkhaaDoorTrG
import Derived.Test.YtoaedkinlnkkhaaDoorTrC
namespace Go.Proofs.YtoaedkinlnkkhaaDoor
open Go.RowKit Go.Shelf

def smallIt (x : It Value) : Prop := x.deep ≤ 11 ∧ (x.n.data.size ≤ 100 ∨ x.n.data.size = 2001) ∧ x.n.kind.size ≤ 20 ∧ ∀ k ∈ x.n.kids, k.1.size ≤ 30
/-- What LargeNode says. -/
def LargeP (most : Nat) (t : Lt) (w : World) (e : Ending) (w' : World) : Prop :=
  ((e = .returned (.int .i64 0) ∧ Small most t) ∨ e = .returned (.int .i64 1)) ∧ Below w.heap.size w w'

/-- What LargeNode looks at. -/
def SmallL (most : Nat) (t : Lt) : Prop := (listOf most 12 t).length ≤ most ∧ ∀ x ∈ listOf most 12 t, smallIt x
theorem SmallL.small {most : Nat} {t : Lt} (h : SmallL most t) : Small most t := small_of most t h.1 h.2
/-- What LargeNode says, just when. -/
def LargeF (most : Nat) (t : Lt) (w : World) (e : Ending) (w' : World) : Prop :=
  ((e = .returned (.int .i64 0) ∧ SmallL most t) ∨ (e = .returned (.int .i64 1) ∧ ¬ SmallL most t)) ∧ Below w.heap.size w w'

set_option maxRecDepth 100000 in
set_option maxHeartbeats 40000000 in
theorem large_fn (t : Lt) (most : Nat) (w : World) (ht : t.Ok w) (hm : most ≤ 300) :
    Calls Tryd.prog 7 #[nval t, .int .i64 (most : Int)] w (LargeF most t w) := by
  obtain ⟨a, cap, hv⟩ := ht.shape
  have hB0 : Below w.heap.size w (w.alloc (.cells #[.string t.kind, .string t.data, .bool t.exec, .slice a t.kids.length cap] 24)) := (Below.refl _ _).alloc (Nat.le_refl _) _
  have hC := listOf_any t most 12 _ (ht.ob hB0) hm (by omega)
  obtain ⟨L, hL⟩ : ∃ L, listOf most 12 t = L := ⟨_, rfl⟩
  have HSL : Hid (SmallL most t ↔ L.length ≤ most ∧ ∀ x ∈ L, smallIt x) := hidd (by unfold SmallL; rw [hL])
  rw [hL] at hC
  unfold nval at hC ⊢
  rw [hv] at hC ⊢
  have HC := hidd hC
  clear hC hv ht hL
  go_enter Tryd.func7, Tryd.ntmps7
  go_wp2_with fail
  refine HC.out.mono ?_
  rintro e w2 ⟨v, rfl, hmany, hown, hok, hb2⟩
  have hB2 := hB0.trans (hb2.mono hB0.size)
  obtain ⟨va, vc, rfl⟩ := hown.shape
  clear hb2 HC hB0
  by_cases hbig : most < L.length
  · have d1 : decide ((most : Int) < (L.length : Int)) = true := decide_eq_true (by omega)
    have d1' : decide (most < L.length) = true := decide_eq_true hbig
    clear hown hok
    have HNS : Hid (¬ SmallL most t) := hidd (fun h => by have := (HSL.out.1 h).1; omega)
    go_wp2_with fail
    go_ret
    exact ⟨.inr ⟨rfl, HNS.out⟩, hB2⟩
  have d1 : decide ((most : Int) < (L.length : Int)) = false := decide_eq_false (by omega)
  have d1' : decide (most < L.length) = false := decide_eq_false hbig
  go_wp2_with fail
  go_loopw [6] (fun s wr => ∃ i : Nat, i ≤ L.length ∧ s = .int .i64 (i : Int) ∧ (∀ x ∈ L.take i, smallIt x) ∧ Below w2.heap.size w2 wr) (fun s _ => L.length - (intOf s).toNat)
  case atStart => exact ⟨0, Nat.zero_le _, rfl, by simp, Below.refl _ _⟩
  case round =>
    obtain ⟨i, hi, rfl, hall, hbel⟩ := hrel
    have hsl := (hown.ob hbel).sl
    have hBr := hB2.trans (hbel.mono hB2.size)
    by_cases hlt : i < L.length
    · obtain ⟨b, off, rfl, hb, c0, c1, c2, c3, c4, c5⟩ := sl_at6 hsl hlt
      have hxo := (hok _ (List.getElem_mem hlt)).ob hbel
      have hts := List.take_succ_eq_append_getElem hlt
      have hmem := List.getElem_mem hlt
      have p1 : (0 : Int) ≤ (i : Int) := by omega
      have p2 : (i : Int) < (L.length : Int) := by omega
      generalize L[i] = x at *
      obtain ⟨xa, xc, hxv⟩ := hxo.ok.shape
      obtain ⟨px, dx, ⟨kx, dax, ex, vx, ksx⟩⟩ := x
      have hxk := hxo.ok
      simp only [Tr.v, Tr.kids, Tr.kind, Tr.data, Tr.exec] at hxv c0 c1 c2 c3 c4 c5 hxk
      subst hxv
      have hdp := hxo.deep
      simp only at hdp
      have hkl := hxk.le
      simp only [Tr.kids] at hkl
      have HTS := hidd hts
      have hq := Blk.new wr [.string px, .int .i64 (dx : Int), .string kx, .string dax, .bool ex, .slice xa ksx.length xc] 52
      have hB3 : Below wr.heap.size wr (wr.alloc (.cells #[.string px, .int .i64 (dx : Int), .string kx, .string dax, .bool ex, .slice xa ksx.length xc] 52)) := (Below.refl _ _).alloc (Nat.le_refl _) _
      have hB3' := hBr.trans (hB3.mono hBr.size)
      have hxk3 := hxk.ob hB3
      have HNB : Hid (¬ smallIt _ → ¬ SmallL most t) := hidd (fun h hs => h ((HSL.out.1 hs).2 _ hmem))
      clear hts hxo hxk hmem
      by_cases g1 : 11 < dx
      · have e1 : decide ((11 : Int) < (dx : Int)) = true := decide_eq_true (by omega)
        have HNS := hidd (HNB.out (fun h => by have := h.1; simp only at this; omega))
        clear hq hxk3 hall hsl
        go_wp2_with fail
        go_ret
        exact ⟨.inr ⟨rfl, HNS.out⟩, hB3'⟩
      have e1 : decide ((11 : Int) < (dx : Int)) = false := decide_eq_false (by omega)
      by_cases g2 : 100 < dax.size ∧ dax.size ≠ 2001
      · obtain ⟨g2, g2'⟩ := g2
        have e2 : decide ((100 : Int) < (dax.size : Int)) = true := decide_eq_true (by omega)
        have e3 : ((dax.size : Int) == 2001) = false := by simp; omega
        have HNS := hidd (HNB.out (fun h => by have := h.2.1; simp only [Tr.data] at this; omega))
        clear hq hxk3 hall hsl
        go_wp2_with fail
        go_ret
        exact ⟨.inr ⟨rfl, HNS.out⟩, hB3'⟩
      have e23 : decide ((100 : Int) < (dax.size : Int)) = false ∨ (decide ((100 : Int) < (dax.size : Int)) = true ∧ (dax.size : Int) = 2001) := by
        by_cases h : 100 < dax.size
        · exact .inr ⟨decide_eq_true (by omega), by omega⟩
        · exact .inl (decide_eq_false (by omega))
      have hdd : dax.size ≤ 100 ∨ dax.size = 2001 := by omega
      have HDD := hidd hdd
      clear g2 hdd
      by_cases g4 : 20 < kx.size
      · have e4 : decide ((20 : Int) < (kx.size : Int)) = true := decide_eq_true (by omega)
        have HNS := hidd (HNB.out (fun h => by have := h.2.2.1; simp only [Tr.kind] at this; omega))
        clear hq hxk3 hall hsl
        rcases e23 with e2 | ⟨e2, e3⟩
        all_goals
          go_wp2_with fail
          go_ret
          exact ⟨.inr ⟨rfl, HNS.out⟩, hB3'⟩
      have e4 : decide ((20 : Int) < (kx.size : Int)) = false := decide_eq_false (by omega)
      have hi1 : i + 1 ≤ L.length := hlt
      obtain ⟨wo, hwo⟩ : ∃ wo : World, wo = wr := ⟨_, rfl⟩
      subst hwo
      rcases e23 with e2 | ⟨e2, e3⟩
      all_goals
        go_wp2_with fail
        go_loopw [8] (fun s wi => ∃ k : Nat, k ≤ ksx.length ∧ s = .int .i64 (k : Int) ∧ (∀ y ∈ ksx.take k, y.1.size ≤ 30) ∧ Below (wo.heap.size + 1) (wo.alloc (.cells #[.string px, .int .i64 (dx : Int), .string kx, .string dax, .bool ex, .slice xa ksx.length xc] 52)) wi) (fun s _ => ksx.length - (intOf s).toNat)
        case atStart => exact ⟨0, Nat.zero_le _, rfl, by simp, Below.refl _ _⟩
        case round =>
          obtain ⟨k, hk, rfl, hnm, hbi⟩ := hrel
          have hzx : (wo.alloc (.cells #[.string px, .int .i64 (dx : Int), .string kx, .string dax, .bool ex, .slice xa ksx.length xc] 52)).heap.size = wo.heap.size + 1 := by simp
          have hqi := hq.below hbi (by omega)
          have q5 := hqi.cell (i := 5) rfl
          have hBi : Below w.heap.size w wr := hB3'.trans (hbi.mono (by have := hBr.size; omega))
          have hxi := hxk3.ob (by rw [hzx]; exact hbi)
          by_cases hkt : k < ksx.length
          · obtain ⟨kb, ko, rfl, hkb, n0, -⟩ := hxi.at5 rfl hkt
            simp only [Tr.kids] at n0
            have hts2 := List.take_succ_eq_append_getElem hkt
            have hym := List.getElem_mem hkt
            have p3 : (0 : Int) ≤ (k : Int) := by omega
            have p4 : (k : Int) < (ksx.length : Int) := by omega
            generalize ksx[k] = y at *
            by_cases g5 : 30 < y.1.size
            · have e5 : decide ((30 : Int) < (y.1.size : Int)) = true := decide_eq_true (by omega)
              have HNS := hidd (HNB.out (fun h => by have := h.2.2.2 y (by simp only [Tr.kids]; exact hym); omega))
              clear hq hxk3 hall hsl hqi hxi hnm hts2 hym
              go_wp2_with fail
              go_ret
              exact ⟨.inr ⟨rfl, HNS.out⟩, hBi⟩
            · have e5 : decide ((30 : Int) < (y.1.size : Int)) = false := decide_eq_false (by omega)
              have HNM : Hid (∀ y' ∈ ksx.take (k + 1), y'.1.size ≤ 30) := hidd (fun y' hy' => by
                rw [hts2] at hy'
                rcases List.mem_append.1 hy' with h | h
                · exact hnm y' h
                · simp only [List.mem_cons, List.not_mem_nil, or_false] at h; subst h; omega)
              clear hnm hts2 hxi hqi hxk3 hall hsl hym
              go_wp2_with fail
              go_roundw
              case rel => exact ⟨k + 1, by omega, by go_num, HNM.out, hbi⟩
              case measure => simp [intOf]; omega
          · have hkl2 : k = ksx.length := by omega
            have HALL : Hid (∀ x ∈ L.take (i + 1), smallIt x) := hidd (fun x hx => by
              rw [HTS.out] at hx
              rcases List.mem_append.1 hx with h | h
              · exact hall x h
              · simp only [List.mem_cons, List.not_mem_nil, or_false] at h
                subst h
                refine ⟨by simp only; omega, HDD.out, by simp only [Tr.kind]; omega, fun y hy => ?_⟩
                simp only [Tr.kids] at hy
                exact hnm y (by rw [hkl2, List.take_of_length_le (Nat.le_refl _)]; exact hy))
            have hbel2 : Below w2.heap.size w2 wr := (hbel.trans (hB3.mono hbel.size)).trans (hbi.mono (by have := hbel.size; omega))
            clear hnm hxi hqi hxk3 hall hsl hkl2 hbi
            go_wp2_with fail
            go_roundw
            case rel => exact ⟨i + 1, hi1, by go_num, HALL.out, hbel2⟩
            case measure => simp [intOf]; omega
    · have hil : i = L.length := by omega
      have HF : Hid (SmallL most t) := hidd (HSL.out.2 ⟨by omega, fun x hx => hall x (by rw [hil, List.take_of_length_le (Nat.le_refl _)]; exact hx)⟩)
      clear hall hil hsl
      go_wp2_with fail
      go_ret
      exact ⟨.inl ⟨rfl, HF.out⟩, hBr⟩
theorem large_any (t : Lt) (most : Nat) (w : World) (ht : t.Ok w) (hm : most ≤ 300) :
    Calls Tryd.prog 7 #[nval t, .int .i64 (most : Int)] w (LargeP most t w) :=
  (large_fn t most w ht hm).mono fun _ _ ⟨h, hb⟩ => ⟨h.elim (fun h => .inl ⟨h.1, h.2.small⟩) (fun h => .inr h.1), hb⟩
end Go.Proofs.YtoaedkinlnkkhaaDoor
