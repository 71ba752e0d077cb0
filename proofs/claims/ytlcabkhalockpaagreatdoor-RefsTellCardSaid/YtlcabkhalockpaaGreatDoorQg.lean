/- The statements' ownPacks. Condition: the packs are there. -/
import Derived.Test.YtlcabkhalockpaaGreatDoorQf
import Derived.Test.YtlcabkhalockpaaGreatDoorTrO
namespace Go.Proofs.YtlcabkhalockpaaGreatDoor
open Go.RowKit Go.Shelf Go.Maps

theorem infoPk : (Tryz.prog.info? 49).map (fun i => (i.zero, i.size, i.bytes)) = some (some (.agg #[.string ⟨#[]⟩, .slice none 0 0, .string ⟨#[]⟩, .string ⟨#[]⟩, .bool false, .slice none 0 0]), 6, 104) := by kernel_rfl
/-- A pack of its own. -/
def ownPv (p : Pv) (a : Option Addr) (c : Nat) : Pv := ⟨p.name, a, c, p.refs, ByteArray.empty, ByteArray.empty, false, none, 0, 0⟩
/-- What ownPacks gives. -/
def OpP (L : List Pv) (w : World) (e : Ending) (w' : World) : Prop := ∃ (M : List Pv) (u : Value), e = .returned u ∧ PkI M u w' ∧ pnL M = pnL L ∧ Below w.heap.size w w'
theorem oneP (M : List Pv) : ∀ u ∈ pkcells M, u.oneCell' = true := by
  intro u hu
  unfold pkcells at hu
  obtain ⟨p, -, hp⟩ := List.mem_flatMap.1 hu
  unfold pkcell at hp
  simp only [List.mem_cons, List.not_mem_nil, or_false] at hp
  rcases hp with rfl | rfl | rfl | rfl | rfl | rfl <;> rfl
/-- Packs of one's own under way. -/
structure OwK (w : World) (M : List Pv) (v : Value) (W : World) : Prop where
  ow : Ow (fun g => w.heap.size ≤ g) W 49 6 v M.length (pkcells M)
  ok : ∀ p ∈ M, p.Ok W
  ap : ∀ p ∈ M, ∀ b, p.rv.ownBlock = some b → b < W.heap.size ∧ v.ownBlock ≠ some b
  below : Below w.heap.size w W
theorem OwK.step {w wr w4 w5 : World} {M : List Pv} {v v5 : Value} {o : Obj} (h : OwK w M v wr) (hb4 : Below wr.heap.size wr w4) {p : Pv} (hz : Sz p.name) (hs : ∀ s ∈ p.refs, Sz s)
    (ho4 : Ow (fun g => wr.heap.size ≤ g) w4 9 1 p.rv p.refs.length (tcells p.refs)) (ho5 : Ow (fun g => w4.heap.size ≤ g ∨ v.ownBlock = some g) w5 49 6 v5 (M.length + 1) (pkcells M ++ pkcell p)) (hg5 : (w4.alloc o).grownBy w5 v.ownBlock) : OwK w (M ++ [p]) v5 w5 := by
  have h4 := hb4.size
  have hw := h.below.size
  have hF5 : Fr (fun b => v.ownBlock = some b) w4 w5 := ((Fr.refl _ w4).alloc _).grown hg5 (fun j ej => .inl ej)
  have hF0 : Fr (fun b => v.ownBlock = some b) wr w5 := (Fr.ob hb4).trans hF5
  have h5 := hF5.size
  have hv : ∀ b, v.ownBlock = some b → w.heap.size ≤ b ∧ b < wr.heap.size := h.ow.blk
  have hne : ∀ b, b < w4.heap.size → v.ownBlock ≠ some b → v5.ownBlock ≠ some b := fun b hb hn e => by
    rcases (ho5.blk b e).1 with k | k
    · omega
    · exact hn k
  refine ⟨?_, fun q hq => ?_, fun q hq b hb => ?_, ?_⟩
  · rw [List.length_append, pkcells_app]
    have : pkcells [p] = pkcell p := by simp [pkcells]
    rw [this]
    exact ho5.mono (fun g hg => by
      rcases hg with k | k
      · omega
      · exact (hv g k).1)
  · rw [List.mem_append, List.mem_singleton] at hq
    rcases hq with hq | rfl
    · have hk := h.ok q hq
      exact ⟨hk.sl.fr hF0 (fun b hb => (h.ap q hq b hb).2), hk.nm, hk.rs⟩
    · exact ⟨ho4.sl.fr hF5 (fun b hb e => by have := (ho4.blk b hb).1; have := (hv b e).2; omega), hz, hs⟩
  · rw [List.mem_append, List.mem_singleton] at hq
    rcases hq with hq | rfl
    · have := h.ap q hq b hb
      exact ⟨by omega, hne b (by omega) this.2⟩
    · have := ho4.blk b hb
      exact ⟨by omega, hne b this.2 (fun e => by have := (hv b e).2; omega)⟩
  · exact (below_step h.below hb4).trans (hF5.below (by omega) (fun b e => (hv b e).1))
set_option maxRecDepth 100000 in
set_option maxHeartbeats 8000000 in
theorem ownPacks_any (L : List Pv) (v : Value) (w : World) (h : PkI L v w) (h5 : L.length ≤ 45) (hr : ∀ p ∈ L, p.refs.length ≤ 25) :
    Calls Tryz.prog 9 #[v] w (OpP L w) := by
  obtain ⟨a, cap, rfl⟩ := h.shape
  obtain ⟨i0, hi0, hz0, hz1, hz2⟩ := info_parts infoTx3
  obtain ⟨i1, hi1, hy0, hy1, hy2⟩ := info_parts infoPk
  go_enter Tryz.func9, Tryz.ntmps9
  go_wp2_with fail
  go_loopw [3, 4] (fun vo vi wr => ∃ (k : Nat) (M : List Pv) (va : Option Addr) (vc : Nat), k ≤ L.length ∧ vi = .int .i64 (k : Int) ∧ vo = .slice va M.length vc ∧ M.length = k ∧ pnL M = pnL (L.take k) ∧ OwK w M (.slice va M.length vc) wr) (fun _ vi _ => L.length - (intOf vi).toNat)
  case atStart => exact ⟨0, [], none, 0, Nat.zero_le _, rfl, rfl, rfl, rfl, ⟨Ow.nil _ _ _ _, fun p hp => absurd hp (by simp), fun p hp => absurd hp (by simp), Below.refl _ _⟩⟩
  case round =>
    obtain ⟨k, M, va, vc, hk, rfl, rfl, hmk, hpn, how⟩ := hrel
    have hbe := how.below
    by_cases hlt : k < L.length
    · obtain ⟨b1, o1, rfl, hb1, a0, a1, a2, a3, a4, a5⟩ := (h.ob hbe).at hlt
      have hok := (h.ob hbe).2 _ (List.getElem_mem hlt)
      have hrl := hr _ (List.getElem_mem hlt)
      have p1 : (0 : Int) ≤ (k : Int) := by omega
      have p2 : (k : Int) < (L.length : Int) := by omega
      have hst : ∀ a' c', pnL (M ++ [ownPv L[k] a' c']) = pnL (L.take (k + 1)) := fun a' c' => by
        rw [List.take_succ_eq_append_getElem hlt]
        unfold pnL at hpn ⊢
        rw [List.map_append, List.map_append, hpn]
        rfl
      have hsw := hbe.size
      generalize L[k] = pv at *
      obtain ⟨nm, ra, rc, rs, kk, dd, ee, ta, tn, tc⟩ := pv
      simp only [Pv.rv, Pv.tv] at a0 a1 a2 a3 a4 a5
      have htx := hok.txi
      have hnz := hok.nm
      have HRS := hidd hok.rs
      simp only [Pv.rv] at htx hnz hrl HRS
      have HST := hidd hst
      have HMK := hidd hmk
      have hml : M.length ≤ 44 := by omega
      have HL := hidd hlt
      clear hst hpn a2 a3 a4 a5 hok hmk h
      go_upto_region 6 with fail
      have d0 : wr.drew.cell? ⟨b1, o1 + k * 6, none⟩ = some (.string nm) := a0
      have d1 : wr.drew.cell? ⟨b1, o1 + k * 6 + 1, none⟩ = some (.slice ra rs.length rc) := a1
      have hsr := Src.sl (P := Tryz.prog) (tx := 23) Tryz.underlying23 (htx.1.ob ((Below.refl wr.heap.size wr).drew) (Nat.le_refl _)) (one_tcells rs)
      have HF : Hid (∀ w4, wr.drew.grownBy w4 (Value.slice none 0 0).ownBlock → Below wr.heap.size wr w4) := hidd (fun w4 hg => (Below.refl _ _).drew.grown hg (Nat.le_refl _) (fun k e => by cases e))
      have HC : Hid (∀ w4, Below wr.heap.size wr w4 → w4.cell? ⟨b1, o1 + k * 6, none⟩ = some (.string nm)) := hidd (fun w4 hb => (hb.cell (p := ⟨b1, o1 + k * 6, none⟩) hb1).trans a0)
      have HS : Hid (∀ (w4 : World) (a' : Option Addr) (c' : Nat), Src Tryz.prog 6 22 (.slice (some ⟨w4.heap.size, 0, none⟩) 1 1) 1 [.string nm, .slice a' rs.length c', .string ⟨#[]⟩, .string ⟨#[]⟩, .bool false, .slice none 0 0] (w4.alloc (.cells #[.string nm, .slice a' rs.length c', .string ⟨#[]⟩, .string ⟨#[]⟩, .bool false, .slice none 0 0] 49))) :=
        hidd (fun w4 a' c' => Src.new (P := Tryz.prog) (size := 6) (tx := 22) Tryz.underlying22 w4 w4.heap.size rfl [.string nm, .slice a' rs.length c', .string ⟨#[]⟩, .string ⟨#[]⟩, .bool false, .slice none 0 0] 49 rfl (by intro u hu; simp only [List.mem_cons, List.not_mem_nil, or_false] at hu; rcases hu with rfl | rfl | rfl | rfl | rfl | rfl <;> rfl) 1)
      have HOW := hidd how
      clear a0 a1 how htx
      go_region_law (first
        | (refine step_append_tr rfl (.tmp 18) (.tmp 23) 23 23 rfl (fun g => wr.heap.size ≤ g) (fun g hg => by (try simp at hg); omega) 9 i0 _ 1 16 Tryz.underlying23 hi0 hz0 hz1 hz2 rfl (by decide) _ _ _ (by simp [Act.eval]) (Ow.nil _ _ _ _) _ _ _ (by simp [Act.eval]) hsr (by unfold maxLen; omega) (by omega) ?_; intro v4 w4 ho4 hg4; simp only [Nat.zero_add, List.nil_append] at ho4; obtain ⟨a4, c4, hv4⟩ := ho4.shape; subst hv4; have hb4 := HF.out w4 hg4; have d4 := HC.out w4 hb4)
        | (refine step_append_tr rfl (.tmp 12) (.tmp 26) 22 22 rfl (fun g => w4.heap.size ≤ g ∨ (Value.slice va M.length vc).ownBlock = some g) (fun g hg => by (try simp at hg); exact .inl (by omega)) 49 i1 _ 6 104 Tryz.underlying22 hi1 hy0 hy1 hy2 rfl (by decide) _ _ _ (by simp [Act.eval]) (((HOW.out.ow.self.mono (fun g hg => .inr hg)).ob hb4).alloc _) _ _ _ (by simp [Act.eval]) (HS.out w4 a4 c4) (by unfold maxLen; omega) (by omega) ?_; intro v5 w5 ho5 hg5; obtain ⟨a5, c5, hv5⟩ := ho5.shape; subst hv5))
      all_goals
        have hst := HOW.out.step (p := ownPv ⟨nm, ra, rc, rs, kk, dd, ee, ta, tn, tc⟩ a4 c4) hb4 hnz HRS.out ho4 ho5 hg5
        have HN := hidd hst
        clear hst ho5 hg5 ho4 hg4 hb4 d4 d0 d1 hsr HF HC HS HOW
        go_wp2_with fail
        go_roundw
        case rel => exact ⟨k + 1, M ++ [ownPv ⟨nm, ra, rc, rs, kk, dd, ee, ta, tn, tc⟩ a4 c4], a5, c5, HL.out, by go_num, by rw [List.length_append]; rfl, by rw [List.length_append, HMK.out]; rfl, HST.out _ _, by rw [List.length_append]; exact HN.out⟩
        case measure => simp [intOf]; have := HL.out; omega
    · have hkl : k = L.length := by omega
      subst hkl
      rw [List.take_of_length_le (Nat.le_refl _)] at hpn
      have HNO := hidd hpn
      have HOW := hidd how
      clear hpn how h
      go_wp2_with fail
      go_ret
      exact ⟨M, _, rfl, ⟨HOW.out.ow.sl, HOW.out.ok⟩, HNO.out, hbe⟩
end Go.Proofs.YtlcabkhalockpaaGreatDoor
