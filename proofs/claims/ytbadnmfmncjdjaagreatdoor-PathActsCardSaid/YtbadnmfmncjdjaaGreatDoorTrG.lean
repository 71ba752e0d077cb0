/- The contract of the reference's ListOf. Condition: the tree is there; at most 300 nodes are asked for. -/
import Derived.Test.YtbadnmfmncjdjaaGreatDoorTrI
namespace Go.Proofs.YtbadnmfmncjdjaaGreatDoor
open Go.RowKit

theorem infoItem : (Tryz.prog.info? 71).map (fun i => (i.zero, i.size, i.bytes)) = some (some (.agg #[.string ⟨#[]⟩, .int .i64 0, .string ⟨#[]⟩, .string ⟨#[]⟩, .bool false, .slice none 0 0]), 6, 88) := by kernel_rfl

theorem take_mid {α : Type} (d : List α) (x : α) (r : List α) : (d ++ x :: r).take (d.length + 1) = d ++ [x] := by
  rw [show d ++ x :: r = (d ++ [x]) ++ r by simp]; exact List.take_left' (by simp)
theorem drop_mid {α : Type} (d : List α) (x : α) (r : List α) : (d ++ x :: r).drop (d.length + 1) = r := by
  rw [show d ++ x :: r = (d ++ [x]) ++ r by simp]; exact List.drop_left' (by simp)

/-- Where the list of nodes is at round i. -/
structure LoAt (w : World) (most D : Nat) (L : List (It Value)) (i : Nat) (v : Value) (wr : World) (done todo : List (It Value)) : Prop where
  len : done.length = i
  le : i ≤ most + 1
  eq : done ++ lo (most + 1) D (most + 1 - i) todo = L
  many : (done ++ todo).length ≤ 1 + i * (most + 1)
  ok : ∀ x ∈ done ++ todo, ItOk wr D x
  own : Ow (fun g => w.heap.size ≤ g) wr 71 6 v (done ++ todo).length (itcells (done ++ todo))
  bel : Below w.heap.size w wr

/-- What ListOf gives. -/
def ListP (L : List (It Value)) (D : Nat) (w : World) (e : Ending) (w' : World) : Prop :=
  ∃ v, e = .returned v ∧ L.length ≤ 91000 ∧ Ow (fun g => w.heap.size ≤ g) w' 71 6 v L.length (itcells L) ∧ (∀ x ∈ L, ItOk w' D x) ∧ Below w.heap.size w w'

set_option maxRecDepth 100000 in
set_option maxHeartbeats 40000000 in
theorem listOf_any (t : Lt) (most D : Nat) (w : World) (ht : t.Ok w) (hm : most ≤ 300) (hD : D ≤ 20) :
    Calls Tryz.prog 33 #[nval t, .int .i64 (most : Int), .int .i64 (D : Int)] w (ListP (listOf most D t) D w) := by
  obtain ⟨i0, hi, hz0, hz1, hz2⟩ := info_parts infoItem
  obtain ⟨ta, tc, htv⟩ := ht.shape
  obtain ⟨L, hL⟩ : ∃ L, listOf most D t = L := ⟨_, rfl⟩
  have HL : Hid (listOf most D t = L) := hidd hL
  rw [hL]
  clear hL
  obtain ⟨kd, da, ex, va, ks⟩ := t
  simp only [Tr.v, Tr.kids] at htv
  subst htv
  unfold nval
  simp only [Tr.kind, Tr.data, Tr.exec, Tr.v]
  have hB0 : Below w.heap.size w ((w.alloc (.cells #[.string kd, .string da, .bool ex, .slice ta ks.length tc] 24)).alloc (.cells #[.string ⟨#[]⟩, .int .i64 0, .string kd, .string da, .bool ex, .slice ta ks.length tc] 71)) := ((Below.refl _ _).alloc (Nat.le_refl _) _).alloc (by simp) _
  have H0 : Hid (LoAt w most D L 0 (.slice (some ⟨w.heap.size + 1, 0, none⟩) 1 1) ((w.alloc (.cells #[.string kd, .string da, .bool ex, .slice ta ks.length tc] 24)).alloc (.cells #[.string ⟨#[]⟩, .int .i64 0, .string kd, .string da, .bool ex, .slice ta ks.length tc] 71)) [] [⟨⟨#[]⟩, 0, .mk kd da ex (.slice ta ks.length tc) ks⟩]) := hidd {
    len := rfl
    le := by omega
    eq := HL.out
    many := by simp
    ok := fun x hx => by
      simp only [List.nil_append, List.mem_cons, List.not_mem_nil, or_false] at hx
      subst hx
      exact ⟨Nat.zero_le _, Nat.zero_le _, ht.ob hB0⟩
    own := by
      have := Blk.new (w.alloc (.cells #[.string kd, .string da, .bool ex, .slice ta ks.length tc] 24)) [.string ⟨#[]⟩, .int .i64 0, .string kd, .string da, .bool ex, .slice ta ks.length tc] 71
      rw [show (w.alloc (.cells #[.string kd, .string da, .bool ex, .slice ta ks.length tc] 24)).heap.size = w.heap.size + 1 by simp] at this
      refine ⟨rfl, .inr ⟨w.heap.size + 1, 0, 1, _, rfl, by omega, this, by simp, by unfold maxLen; omega, by simp, rfl⟩⟩
    bel := hB0 }
  go_enter Tryz.func33, Tryz.ntmps33
  go_wp2_with fail
  go_loopw [7, 8] (fun v t wr => ∃ (i : Nat) (done todo : List (It Value)), t = .int .i64 (i : Int) ∧ LoAt w most D L i v wr done todo) (fun _ t _ => most + 1 - (intOf t).toNat)
  case atStart => exact ⟨0, _, _, rfl, H0.out⟩
  case round =>
    obtain ⟨i, done, todo, rfl, h⟩ := hrel
    obtain ⟨va, vc, hv⟩ := h.own.shape
    subst hv
    have hmul : i * (most + 1) ≤ 301 * 301 := Nat.mul_le_mul (by have := h.le; omega) (by omega)
    have hn : (done ++ todo).length ≤ 91000 := by have := h.many; omega
    have hlen := h.len
    have hle := h.le
    have hz := h.bel.size
    clear hB0 ht H0
    cases todo with
    | nil =>
      have hnn : (done ++ ([] : List (It Value))).length = i := by simp [hlen]
      have HE : Hid (done = L) := hidd (by
        have := h.eq
        cases hc : most + 1 - i <;> simpa [hc, lo] using this)
      have HP : Hid (ListP L D w (.returned (.slice va i vc)) wr) := hidd (by
        refine ⟨_, rfl, ?_, ?_, ?_, h.bel⟩
        · rw [← HE.out]; simpa using hn
        · rw [← HE.out]; have := h.own; rw [hnn] at this; rw [hlen]; simpa using this
        · rw [← HE.out]; simpa using h.ok)
      rw [hnn]
      have q1 : decide (i < i) = false := by simp
      clear h hmul hn hnn hlen hz
      go_wp2_with fail
      go_ret
      exact HP.out
    | cons x r =>
      have hnn : (done ++ x :: r).length = i + 1 + r.length := by simp [hlen]; omega
      by_cases him : i ≤ most
      · have hxo := h.ok x (by simp)
        obtain ⟨xa, xc, hxv⟩ := hxo.ok.shape
        obtain ⟨b, off, hva, hbl, c0, c1, c2, c3, c4, c5⟩ := sl_at6 (l := done ++ x :: r) (i := i) h.own.sl (by rw [hnn]; omega)
        have hget : (done ++ x :: r)[i]'(by rw [hnn]; omega) = x := by
          rw [List.getElem_append_right (by omega)]; simp [hlen]
        rw [hget] at c0 c1 c2 c3 c4 c5
        clear hget
        subst hva
        obtain ⟨px, dx, ⟨kx, dax, ex', vx, ksx⟩⟩ := x
        simp only [Tr.v, Tr.kids, Tr.kind, Tr.data, Tr.exec] at hxv c0 c1 c2 c3 c4 c5
        subst hxv
        have hlo : lo (most + 1) D (most + 1 - i) (⟨px, dx, .mk kx dax ex' (.slice xa ksx.length xc) ksx⟩ :: r) = ⟨px, dx, .mk kx dax ex' (.slice xa ksx.length xc) ksx⟩ :: lo (most + 1) D (most + 1 - (i + 1)) ((if D < dx then [] else kidsOf (most + 1) ⟨px, dx, .mk kx dax ex' (.slice xa ksx.length xc) ksx⟩) ++ r) := by
          rw [show most + 1 - i = (most + 1 - (i + 1)) + 1 by omega, lo]
        have p1 : (0 : Int) ≤ (i : Int) := by omega
        have q2 : decide ((i : Int) ≤ (most : Int)) = true := by simp; omega
        have q2' : decide (i ≤ most) = true := by simp; omega
        have hin : i < i + 1 + r.length := by omega
        have hbx : Below wr.heap.size wr (wr.alloc (.cells #[.string px, .int .i64 (dx : Int), .string kx, .string dax, .bool ex', .slice xa ksx.length xc] 71)) := (Below.refl _ _).alloc (Nat.le_refl _) _
        by_cases hdx : D < dx
        · rw [if_pos hdx] at hlo
          have HN : Hid (LoAt w most D L (i + 1) (.slice (some ⟨b, off, none⟩) (i + 1 + r.length) vc) (wr.alloc (.cells #[.string px, .int .i64 (dx : Int), .string kx, .string dax, .bool ex', .slice xa ksx.length xc] 71)) (done ++ [⟨px, dx, .mk kx dax ex' (.slice xa ksx.length xc) ksx⟩]) r) := hidd {
            len := by simp [hlen]
            le := by omega
            eq := by rw [← h.eq, hlo]; simp
            many := by have := h.many; rw [Nat.add_mul]; simp at this ⊢; omega
            ok := fun y hy => (h.ok y (by simpa using hy)).ob hbx
            own := by have := h.own.ob hbx; rw [← hnn]; simpa using this
            bel := h.bel.trans (hbx.mono hz) }
          rw [hnn] at hn ⊢
          generalize i + 1 + r.length = n at *
          have q1 : decide (i < n) = true := by simp; omega
          have q1' : (i : Int) < (n : Int) := by omega
          have q3 : decide ((D : Int) < (dx : Int)) = true := by simp; omega
          have q3' : decide (D < dx) = true := by simp; omega
          clear h hmul hnn hlen hz hle hlo hxo hbx
          go_wp2_with fail
          go_roundw
          case rel => exact ⟨i + 1, _, _, by go_num, HN.out⟩
          case measure => simp [intOf]; omega
        · rw [if_neg hdx] at hlo
          have hown1 := h.own.ob hbx
          have hok1 : ∀ y ∈ done ++ ⟨px, dx, .mk kx dax ex' (.slice xa ksx.length xc) ksx⟩ :: r, ItOk (wr.alloc (.cells #[.string px, .int .i64 (dx : Int), .string kx, .string dax, .bool ex', .slice xa ksx.length xc] 71)) D y := fun y hy => (h.ok y hy).ob hbx
          have hs0 := hown1.sl
          rw [hnn] at hs0
          have hcap : i + 1 + r.length ≤ vc := by
            obtain ⟨a', c', he, _, h2, _⟩ := hs0
            simp only [Value.slice.injEq] at he
            omega
          have hs1 := hs0.takeN (k := i + 1) (by omega)
          have htk : (done ++ ⟨px, dx, .mk kx dax ex' (.slice xa ksx.length xc) ksx⟩ :: r).take (i + 1) = done ++ [⟨px, dx, .mk kx dax ex' (.slice xa ksx.length xc) ksx⟩] := by
            rw [← hlen]; exact take_mid _ _ _
          rw [itcells_take, htk] at hs1
          have hsr1 := Src.sl (P := Tryz.prog) (tx := 68) Tryz.underlying68 hs1 (one_itcells _ _ D (fun y hy => hok1 y (by rcases List.mem_append.1 hy with hy | hy; exact List.mem_append_left _ hy; simp only [List.mem_cons, List.not_mem_nil, or_false] at hy; subst hy; simp)))
          have hq := Blk.new wr [.string px, .int .i64 (dx : Int), .string kx, .string dax, .bool ex', .slice xa ksx.length xc] 71
          have hzx : (wr.alloc (.cells #[.string px, .int .i64 (dx : Int), .string kx, .string dax, .bool ex', .slice xa ksx.length xc] 71)).heap.size = wr.heap.size + 1 := by simp
          obtain ⟨n, hnd⟩ : ∃ n, i + 1 + r.length = n := ⟨_, rfl⟩
          rw [hnn] at hn ⊢
          rw [hnd] at hn hcap ⊢
          have q1 : decide (i < n) = true := by simp; omega
          have q1' : (i : Int) < (n : Int) := by omega
          have q3 : decide ((D : Int) < (dx : Int)) = false := by simp; omega
          have q3' : decide (D < dx) = false := by simp; omega
          have q4 : (i : Int) + 1 ≤ (vc : Int) := by omega
          have HN := hidd hnd
          have HLE := hidd hlen
          have HNN := hidd hnn
          have HLO := hidd hlo
          clear hnd hlen hnn hlo htk
          go_wp2_with (at_builtin; refine wpList_append_ow _ rfl _ _ 68 68 rfl (fun g => wr.heap.size < g) ?cF 71 i0 _ 6 88 Tryz.underlying68 hi hz0 hz1 hz2 rfl (by decide) _ _ _ rfl (Ow.nil _ _ 71 6) _ _ _ rfl hsr1 ?c3 ?c4 ?_)
          case cF => intro g hg; simp at hg; omega
          case c3 => unfold maxLen; omega
          case c4 => omega
          intro v2 w2 ho2 hg2
          have hb12 : Below (wr.heap.size + 1) (wr.alloc (.cells #[.string px, .int .i64 (dx : Int), .string kx, .string dax, .bool ex', .slice xa ksx.length xc] 71)) w2 := (Below.refl _ _).grown hg2 (by simp) (fun k hk => by simp [Value.ownBlock] at hk)
          try simp only [Nat.zero_add, List.nil_append] at ho2
          go_wp2_with fail
          obtain ⟨wo, hwo⟩ : ∃ wo : World, wo = wr := ⟨_, rfl⟩
          subst hwo
          go_loopw [10, 11] (fun v t wi => ∃ k : Nat, k ≤ ksx.length ∧ k ≤ most + 1 ∧ t = .int .i64 (k : Int) ∧ Ow (fun g => wo.heap.size < g) wi 71 6 v (i + 1 + k) (itcells (done ++ [⟨px, dx, .mk kx dax ex' (.slice xa ksx.length xc) ksx⟩] ++ kidsOf k ⟨px, dx, .mk kx dax ex' (.slice xa ksx.length xc) ksx⟩)) ∧
            Below (wo.heap.size + 1) (wo.alloc (.cells #[.string px, .int .i64 (dx : Int), .string kx, .string dax, .bool ex', .slice xa ksx.length xc] 71)) wi) (fun _ t _ => most + 1 - (intOf t).toNat)
          case atStart => exact ⟨0, Nat.zero_le _, Nat.zero_le _, rfl, by simpa [kidsOf] using ho2, hb12⟩
          case round =>
            obtain ⟨k, hk, hkm, rfl, hown, hbi⟩ := hrel
            obtain ⟨la, lc, rfl⟩ := hown.shape
            have hqi := hq.below hbi (by omega)
            have e0 := hqi.cell (i := 0) rfl
            have e1 := hqi.cell (i := 1) rfl
            have e5 := hqi.cell (i := 5) rfl
            have hzi := hbi.size
            rw [hzx] at hzi
            by_cases hgo : k < ksx.length ∧ k ≤ most
            · obtain ⟨hlt, hkm2⟩ := hgo
              have hbw : Below wo.heap.size wo wr := hbx.trans (hbi.mono (by omega))
              have hxi : (Tr.mk kx dax ex' (.slice xa ksx.length xc) ksx : Lt).Ok wr := hxo.ok.ob hbw
              obtain ⟨kb, ko, hxa, hkb, g0', g1', g2', g3', g4'⟩ := hxo.ok.at5 rfl hlt
              have g0 := (hbw.cell (p := ⟨kb, _, none⟩) hkb).trans g0'
              have g1 := (hbw.cell (p := ⟨kb, _, none⟩) hkb).trans g1'
              have g2 := (hbw.cell (p := ⟨kb, _, none⟩) hkb).trans g2'
              have g3 := (hbw.cell (p := ⟨kb, _, none⟩) hkb).trans g3'
              have g4 := (hbw.cell (p := ⟨kb, _, none⟩) hkb).trans g4'
              clear g0' g1' g2' g3' g4'
              have hkk := hxi.get hlt
              have hnms := hxi.names _ (List.getElem_mem hlt)
              obtain ⟨ya, yc, hyv⟩ := hkk.shape
              have hks := kidsOf_succ (x := (⟨px, dx, .mk kx dax ex' (.slice xa ksx.length xc) ksx⟩ : It Value)) hlt
              simp only [Tr.kids] at g0 g1 g2 g3 g4 hkk hnms hyv hks
              obtain ⟨y, hy⟩ : ∃ y, ksx[k] = y := ⟨_, rfl⟩
              rw [hy] at g0 g1 g2 g3 g4 hkk hnms hyv hks
              obtain ⟨ny, ⟨ky, dy, ey, vy, ksy⟩⟩ := y
              simp only [Tr.kind, Tr.data, Tr.exec, Tr.v] at g0 g1 g2 g3 g4 hyv hnms
              subst hyv
              have hpth := hxo.path
              have hdp := hxo.deep
              simp only at hpth hdp
              have hps : px.size ≤ 3000000000000000 := by
                have : dx * 140737488351233 ≤ 21 * 140737488351233 := Nat.mul_le_mul_right _ (by omega)
                omega
              have p3 : (0 : Int) ≤ (k : Int) := by omega
              have p4 : (k : Int) < (ksx.length : Int) := by omega
              have q5 : decide (k < ksx.length) = true := by simp; omega
              have q6 : decide ((k : Int) ≤ (most : Int)) = true := by simp; omega
              have q6' : decide (k ≤ most) = true := by simp; omega
              have hw1 : IntKind.i64.wrap ((dx : Int) + 1) = (dx : Int) + 1 := i64_in _ (by omega)
              clear hy c0 c1 c2 c3 c4 c5
              subst hxa
              have hs2 := Src.sl (P := Tryz.prog) (tx := 68) Tryz.underlying68 (Sl.new wr [.string (px ++ ⟨#[47]⟩ ++ ny), .int .i64 ((dx : Int) + 1), .string ky, .string dy, .bool ey, .slice ya ksy.length yc] 71 6 rfl).drew (by intro u hu; simp only [List.mem_cons, List.not_mem_nil, or_false] at hu; rcases hu with rfl | rfl | rfl | rfl | rfl | rfl <;> rfl)
              have HKS := hidd hks
              have HQ1 := hidd hq
              have r1 : ¬ (9223372036854775807 < px.size + 1) := by omega
              have r2 : ¬ (9223372036854775807 < px.size + 1 + ny.size) := by omega
              clear hks hq hkk hxi hxo hok1 hown1 hs0 hs1 hsr1 h hb12 ho2 hg2 hpth hdp
              go_wp2_with fail
              have HC : Hid (∀ W, Below (wo.heap.size + 1) wr W → W.cell? ⟨wo.heap.size, 0, none⟩ = some (.string px) ∧ W.cell? ⟨wo.heap.size, 1, none⟩ = some (.int .i64 (dx : Int)) ∧ W.cell? ⟨wo.heap.size, 5, none⟩ = some (.slice (some ⟨kb, ko, none⟩) ksx.length xc) ∧
                  W.cell? ⟨kb, ko + k * 5, none⟩ = some (.string ny) ∧ W.cell? ⟨kb, ko + k * 5 + 1, none⟩ = some (.string ky) ∧ W.cell? ⟨kb, ko + k * 5 + 2, none⟩ = some (.string dy) ∧ W.cell? ⟨kb, ko + k * 5 + 3, none⟩ = some (.bool ey) ∧ W.cell? ⟨kb, ko + k * 5 + 4, none⟩ = some (.slice ya ksy.length yc)) := hidd (fun W hW =>
                ⟨(hW.cell (p := ⟨wo.heap.size, 0, none⟩) (by simp)).trans e0, (hW.cell (p := ⟨wo.heap.size, 1, none⟩) (by simp)).trans e1, (hW.cell (p := ⟨wo.heap.size, 5, none⟩) (by simp)).trans e5,
                 (hW.cell (p := ⟨kb, _, none⟩) (Nat.lt_succ_of_lt hkb)).trans g0, (hW.cell (p := ⟨kb, _, none⟩) (Nat.lt_succ_of_lt hkb)).trans g1, (hW.cell (p := ⟨kb, _, none⟩) (Nat.lt_succ_of_lt hkb)).trans g2, (hW.cell (p := ⟨kb, _, none⟩) (Nat.lt_succ_of_lt hkb)).trans g3, (hW.cell (p := ⟨kb, _, none⟩) (Nat.lt_succ_of_lt hkb)).trans g4⟩)
              have hbo := hown.blk
              have HG : Hid (∀ W', ((wr.alloc (.cells #[.string (px ++ ⟨#[47]⟩ ++ ny), .int .i64 ((dx : Int) + 1), .string ky, .string dy, .bool ey, .slice ya ksy.length yc] 71)).drew).grownBy W' (Value.slice la (i + 1 + k) lc).ownBlock → Below (wo.heap.size + 1) wr W') := hidd (fun W' hg =>
                (((Below.refl _ wr).alloc (by omega) _).drew).grown hg (by simp; omega) (fun g hg => (hbo g hg).1))
              clear e0 e1 e5 g0 g1 g2 g3 g4
              go_region_held3 (fun W => W.cell? ⟨wo.heap.size, 0, none⟩ = some (.string px) ∧ W.cell? ⟨wo.heap.size, 1, none⟩ = some (.int .i64 (dx : Int)) ∧ W.cell? ⟨wo.heap.size, 5, none⟩ = some (.slice (some ⟨kb, ko, none⟩) ksx.length xc) ∧
                  W.cell? ⟨kb, ko + k * 5, none⟩ = some (.string ny) ∧ W.cell? ⟨kb, ko + k * 5 + 1, none⟩ = some (.string ky) ∧ W.cell? ⟨kb, ko + k * 5 + 2, none⟩ = some (.string dy) ∧ W.cell? ⟨kb, ko + k * 5 + 3, none⟩ = some (.bool ey) ∧ W.cell? ⟨kb, ko + k * 5 + 4, none⟩ = some (.slice ya ksy.length yc))
                (first | exact HC.out _ (Below.refl _ wr).drew | exact HC.out _ (((Below.refl _ wr).alloc (by omega) _).drew) | exact HC.out _ (HG.out _ hg3) | (trace_state; fail))
                ((refine step_append_tr (by rfl) (.tmp 53) (.tmp 76) 68 68 (by rfl) (fun g => wo.heap.size < g) (fun g hg => by simp at hg; omega) 71 i0 _ 6 88 Tryz.underlying68 hi hz0 hz1 hz2 rfl (by decide) _ _ _ (by rfl) ((hown.alloc _).drew) _ _ _ (by rfl) hs2 (by unfold maxLen; omega) (by omega) ?_; intro v3 w3 ho3 hg3))
              have hb3 := hbi.trans (HG.out _ hg3)
              have HOW : Hid (Ow (fun g => wo.heap.size < g) w3 71 6 v3 (i + 1 + (k + 1)) (itcells (done ++ [⟨px, dx, .mk kx dax ex' (.slice (some ⟨kb, ko, none⟩) ksx.length xc) ksx⟩] ++ kidsOf (k + 1) ⟨px, dx, .mk kx dax ex' (.slice (some ⟨kb, ko, none⟩) ksx.length xc) ksx⟩))) := hidd (by
                rw [HKS.out, ← List.append_assoc, itcells_app]
                exact ho3)
              clear ho3 hg3 HG HC hs2 hbo hown
              go_wp2_with fail
              go_roundw
              case rel => exact ⟨k + 1, by omega, by omega, by go_num, HOW.out, hb3⟩
              case measure => simp [intOf]; omega
            · have hkk : k = min (most + 1) ksx.length := by omega
              have hca : Hid (kidsOf k (⟨px, dx, .mk kx dax ex' (.slice xa ksx.length xc) ksx⟩ : It Value) = kidsOf (most + 1) ⟨px, dx, .mk kx dax ex' (.slice xa ksx.length xc) ksx⟩) := hidd (kidsOf_all hkk)
              have hcc : (k < ksx.length ∧ most < k) ∨ ¬ k < ksx.length := by omega
              have HKK := hidd hkk
              clear hgo hkk
              have hrl : r.length = n - (i + 1) := by have := HN.out; omega
              have hbw : Below wo.heap.size wo wr := hbx.trans (hbi.mono (by omega))
              have HND : Hid (∀ v4 w4 m4 xs4, m4 = i + 1 + k + r.length → xs4 = itcells (done ++ [⟨px, dx, .mk kx dax ex' (.slice xa ksx.length xc) ksx⟩] ++ kidsOf k ⟨px, dx, .mk kx dax ex' (.slice xa ksx.length xc) ksx⟩) ++ itcells r → Ow (fun g => w.heap.size ≤ g) w4 71 6 v4 m4 xs4 → wr.grownBy w4 (Value.slice la (i + 1 + k) lc).ownBlock →
                  LoAt w most D L (i + 1) v4 w4 (done ++ [⟨px, dx, .mk kx dax ex' (.slice xa ksx.length xc) ksx⟩]) (kidsOf (most + 1) ⟨px, dx, .mk kx dax ex' (.slice xa ksx.length xc) ksx⟩ ++ r)) := hidd (fun v4 w4 m4 xs4 hm4 hx4 ho4 hg4 => by
                subst hm4 hx4
                have hb4 : Below wo.heap.size wo w4 := hbw.trans ((Below.refl _ wr).grown hg4 (by omega) (fun g hg => Nat.le_of_lt (hown.blk g hg).1))
                have hkl : (kidsOf (most + 1) (⟨px, dx, .mk kx dax ex' (.slice xa ksx.length xc) ksx⟩ : It Value)).length = k := by rw [kidsOf_len]; exact HKK.out.symm
                have hmn := h.many
                exact {
                  len := by simp [HLE.out]
                  le := by omega
                  eq := by rw [← h.eq, HLO.out]; simp
                  many := by
                    rw [Nat.add_mul]
                    simp only [List.length_append, List.length_cons, List.length_nil] at hmn ⊢
                    rw [hkl]; omega
                  ok := fun y hy => by
                    rcases List.mem_append.1 hy with hy | hy
                    · exact (h.ok y (by
                        rcases List.mem_append.1 hy with hy | hy
                        · exact List.mem_append_left _ hy
                        · simp only [List.mem_cons, List.not_mem_nil, or_false] at hy; subst hy; simp)).ob hb4
                    · rcases List.mem_append.1 hy with hy | hy
                      · exact (hxo.kid (by simp only; omega) y hy).ob hb4
                      · exact (h.ok y (by simp [hy])).ob hb4
                  own := by
                    rw [hca.out, ← itcells_app] at ho4
                    have e1 : (done ++ [(⟨px, dx, .mk kx dax ex' (.slice xa ksx.length xc) ksx⟩ : It Value)] ++ (kidsOf (most + 1) (⟨px, dx, .mk kx dax ex' (.slice xa ksx.length xc) ksx⟩ : It Value) ++ r)) = done ++ [⟨px, dx, .mk kx dax ex' (.slice xa ksx.length xc) ksx⟩] ++ kidsOf (most + 1) (⟨px, dx, .mk kx dax ex' (.slice xa ksx.length xc) ksx⟩ : It Value) ++ r := by simp
                    have e2 : (done ++ [(⟨px, dx, .mk kx dax ex' (.slice xa ksx.length xc) ksx⟩ : It Value)] ++ kidsOf (most + 1) (⟨px, dx, .mk kx dax ex' (.slice xa ksx.length xc) ksx⟩ : It Value) ++ r).length = i + 1 + k + r.length := by
                      simp only [List.length_append, List.length_cons, List.length_nil]
                      rw [hkl, HLE.out]
                    rw [e1, e2]; exact ho4
                  bel := h.bel.trans (hb4.mono h.bel.size) })
              have hrok : ∀ y ∈ r, ItOk wr D y := fun y hy => (h.ok y (by simp [hy])).ob hbw
              have hslb : Sl wr (.slice (some ⟨b, off, none⟩) n vc) (itcells (done ++ ⟨px, dx, .mk kx dax ex' (.slice xa ksx.length xc) ksx⟩ :: r)) n 6 := by rw [← HN.out]; exact hs0.ob (B := wo.heap.size + 1) hbi (by rw [hzx]; exact Nat.le_refl _)
              have hownw := hown.mono (F' := fun g => w.heap.size ≤ g) (fun g hg => by omega)
              have hml : vc ≤ maxLen := by
                obtain ⟨a', c', he, _, _, h2, _⟩ := hslb
                simp only [Value.slice.injEq] at he
                omega
              have HSR : Hid ((vc = i + 1 → ∀ A C, C ≤ maxLen → Src Tryz.prog 6 68 (.slice A 0 C) 0 (itcells r) wr) ∧ (i + 1 < vc → Src Tryz.prog 6 68 (.slice (some ⟨b, off + (i + 1) * 6, none⟩) (n - (i + 1)) (vc - (i + 1))) r.length (itcells r) wr)) := hidd ⟨fun e A C hC => by
                  have hr0 : r.length = 0 := by omega
                  have hr1 := List.eq_nil_of_length_eq_zero hr0
                  rw [hr1]
                  exact Src.sl Tryz.underlying68 (Sl.empty wr A C 6 hC) (fun u hu => by cases hu),
                fun e => by
                  have hd := hslb.dropN (k := i + 1) (by omega)
                  rw [itcells_drop, ← HLE.out, drop_mid, HLE.out] at hd
                  rw [← hrl] at hd ⊢
                  exact Src.sl Tryz.underlying68 hd (one_itcells _ _ D hrok)⟩
              have hnle : i + 1 ≤ n := by omega
              have HRL := hidd hrl
              clear hrl
              have hvv : vc = i + 1 ∨ i + 1 < vc := by omega
              clear hslb hrok h hxo hok1 hown1 hs0 hs1 hsr1 hq hqi e0 e1 ho2 hg2 hb12 hown hbw
              rcases hcc with ⟨z1, z2⟩ | z1
              · have q5 : decide (k < ksx.length) = true := by simp; omega
                have q6 : decide ((k : Int) ≤ (most : Int)) = false := by simp; omega
                have q6' : decide (k ≤ most) = false := by simp; omega
                rcases hvv with hvc | hvc
                · subst hvc
                  have hm0 : (0 : Nat) ≤ maxLen := Nat.zero_le _
                  go_wp2_with (at_builtin; refine wpList_append_ow _ rfl _ _ 68 68 rfl (fun g => w.heap.size ≤ g) ?cF 71 i0 _ 6 88 Tryz.underlying68 hi hz0 hz1 hz2 rfl (by decide) _ _ _ rfl hownw _ _ _ rfl (HSR.out.1 rfl _ _ (by first | exact Nat.zero_le _ | (unfold maxLen at hml ⊢; omega))) ?c3 ?c4 ?_)
                  case cF => intro g hg; omega
                  case c3 => (have := HRL.out; unfold maxLen; omega)
                  case c4 => (have := HRL.out; omega)
                  intro v4 w4 ho4 hg4
                  have HF := hidd (HND.out _ _ _ _ (by have := HRL.out; omega) (by simp [itcells]) ho4 hg4)
                  clear ho4 hg4 HND HSR
                  go_wp2_with fail
                  go_roundw
                  case rel => exact ⟨i + 1, _, _, by go_num, HF.out⟩
                  case measure => simp [intOf]; omega
                · have q7 : ¬ (vc = i + 1) := by omega
                  have q8 : ((vc : Int) == (i : Int) + 1) = false := by simp; omega
                  go_wp2_with (at_builtin; refine wpList_append_ow _ rfl _ _ 68 68 rfl (fun g => w.heap.size ≤ g) ?cF 71 i0 _ 6 88 Tryz.underlying68 hi hz0 hz1 hz2 rfl (by decide) _ _ _ rfl hownw _ _ _ rfl (HSR.out.2 hvc) ?c3 ?c4 ?_)
                  case cF => intro g hg; omega
                  case c3 => (have := HRL.out; unfold maxLen; omega)
                  case c4 => (have := HRL.out; omega)
                  intro v4 w4 ho4 hg4
                  have HF := hidd (HND.out _ _ _ _ (by have := HRL.out; omega) (by simp [itcells]) ho4 hg4)
                  clear ho4 hg4 HND HSR
                  go_wp2_with fail
                  go_roundw
                  case rel => exact ⟨i + 1, _, _, by go_num, HF.out⟩
                  case measure => simp [intOf]; omega
              · have q5 : decide (k < ksx.length) = false := by simp; omega
                rcases hvv with hvc | hvc
                · subst hvc
                  have hm0 : (0 : Nat) ≤ maxLen := Nat.zero_le _
                  go_wp2_with (at_builtin; refine wpList_append_ow _ rfl _ _ 68 68 rfl (fun g => w.heap.size ≤ g) ?cF 71 i0 _ 6 88 Tryz.underlying68 hi hz0 hz1 hz2 rfl (by decide) _ _ _ rfl hownw _ _ _ rfl (HSR.out.1 rfl _ _ (by first | exact Nat.zero_le _ | (unfold maxLen at hml ⊢; omega))) ?c3 ?c4 ?_)
                  case cF => intro g hg; omega
                  case c3 => (have := HRL.out; unfold maxLen; omega)
                  case c4 => (have := HRL.out; omega)
                  intro v4 w4 ho4 hg4
                  have HF := hidd (HND.out _ _ _ _ (by have := HRL.out; omega) (by simp [itcells]) ho4 hg4)
                  clear ho4 hg4 HND HSR
                  go_wp2_with fail
                  go_roundw
                  case rel => exact ⟨i + 1, _, _, by go_num, HF.out⟩
                  case measure => simp [intOf]; omega
                · have q7 : ¬ (vc = i + 1) := by omega
                  have q8 : ((vc : Int) == (i : Int) + 1) = false := by simp; omega
                  go_wp2_with (at_builtin; refine wpList_append_ow _ rfl _ _ 68 68 rfl (fun g => w.heap.size ≤ g) ?cF 71 i0 _ 6 88 Tryz.underlying68 hi hz0 hz1 hz2 rfl (by decide) _ _ _ rfl hownw _ _ _ rfl (HSR.out.2 hvc) ?c3 ?c4 ?_)
                  case cF => intro g hg; omega
                  case c3 => (have := HRL.out; unfold maxLen; omega)
                  case c4 => (have := HRL.out; omega)
                  intro v4 w4 ho4 hg4
                  have HF := hidd (HND.out _ _ _ _ (by have := HRL.out; omega) (by simp [itcells]) ho4 hg4)
                  clear ho4 hg4 HND HSR
                  go_wp2_with fail
                  go_roundw
                  case rel => exact ⟨i + 1, _, _, by go_num, HF.out⟩
                  case measure => simp [intOf]; omega
      · have hi1 : i = most + 1 := by omega
        have HE : Hid (done ++ x :: r = L) := hidd (by
          have := h.eq
          rw [show most + 1 - i = 0 by omega, lo] at this
          exact this)
        have HP : Hid (ListP L D w (.returned (.slice va (i + 1 + r.length) vc)) wr) := hidd (by
          refine ⟨_, rfl, ?_, ?_, ?_, h.bel⟩
          · rw [← HE.out]; exact hn
          · rw [← HE.out]; have := h.own; rw [hnn] at this ⊢; exact this
          · rw [← HE.out]; exact h.ok)
        rw [hnn] at hn ⊢
        have hin : i < i + 1 + r.length := by omega
        generalize i + 1 + r.length = n at *
        have q1 : decide (i < n) = true := by simp; omega
        have q2 : decide ((i : Int) ≤ (most : Int)) = false := by simp; omega
        have q2' : decide (i ≤ most) = false := by simp; omega
        clear h hmul hnn hlen hz hi1 hle
        go_wp2_with fail
        go_ret
        exact HP.out
end Go.Proofs.YtbadnmfmncjdjaaGreatDoor
