/- opt.All: steps until there is none. Condition: the dirs are there. -/
import Derived.Test.YtoemahhpheobkaaGreatDoorOpC
namespace Go.Proofs.YtoemahhpheobkaaGreatDoor
open Go.RowKit Go.Shelf

theorem readB_size {pc : Prop} {w : World} {L : Loc} {s : St} (h : DiM pc w L s) {k : Nat} {x : Ino} (hx : s.T k = some x) : (readB s.ls x).size = x.data.size := by
  have h1 := congrArg List.length (readB_list s.ls x)
  rw [List.length_take, catL_len s.ls x.bl (h.zpcs hx) _ (Nat.le_refl _), (h.tb.ok k x hx).len] at h1
  have h2 : (readB s.ls x).data.toList.length = (readB s.ls x).size := Array.length_toList
  have h3 := needN_hi x.data.size
  omega
/-- Alike inodes have as many blocks. -/
theorem alike_bl {pc : Prop} {w : World} {L : Loc} {s : St} (h : DiM pc w L s) {k l : Nat} {x y : Ino} {c : ByteArray × Bool} (hx : s.T k = some x) (hy : s.T l = some y) (hk : kyI s.ls s.T k = some c) (hl : kyI s.ls s.T l = some c) : x.bl.length = y.bl.length := by
  have hky : ∀ m z, s.T m = some z → kyI s.ls s.T m = some c → readB s.ls z = c.1 := fun m z hz hm => by
    unfold kyI at hm
    rw [hz] at hm
    simp only [Option.bind_some, Option.map_eq_some_iff] at hm
    obtain ⟨d, h1, rfl⟩ := hm
    unfold rdI at h1
    split at h1
    · exact Option.some.inj h1
    · cases h1
  have h1 := readB_size h hx
  have h2 := readB_size h hy
  rw [hky k x hx hk] at h1
  rw [hky l y hy hl] at h2
  rw [(h.tb.ok k x hx).len, (h.tb.ok l y hy).len, ← h1, ← h2]
/-- Behind so many steps. -/
structure OpK (pc : Prop) (L : Loc) (s0 : St) (K c : Nat) (w W : World) (s : St) : Prop where
  di : DiAt pc W L s
  fr : Fr (diS L s0) w W
  sub : ∀ b, diS L s b → diS L s0 b
  N : s.N ≤ s0.N + 3 * c
  bad : badD s.ls s.T K s.D s.nx + c ≤ badD s0.ls s0.T K s0.D s0.nx
  nx : s.nx = s0.nx
  nm : s.nm = s0.nm
  ls : s.ls = s0.ls
  lb : lbT s.T K = lbT s0.T K
  src : ∀ k e, s.D k = some e → ∃ f, s0.D k = some f ∧ e.src = f.src ∧ e.tr = f.tr
  dom : ∀ k, (s.D k).isSome = (s0.D k).isSome
  z : c = 0 → s = s0
section
variable {pc : Prop} {L : Loc} {s0 s : St} {K c : Nat} {w W W' : World}
theorem OpK.zero (h : DiAt pc w L s0) : OpK pc L s0 K 0 w w s0 :=
  ⟨h, Fr.refl _ _, fun _ h => h, by omega, Nat.le_refl _, rfl, rfl, rfl, rfl, fun k e he => ⟨e, he, rfl, rfl⟩, fun _ => rfl, fun _ => rfl⟩
theorem OpK.low (h : OpK pc L s0 K c w W s) (hb : Below W.heap.size W W') : OpK pc L s0 K c w W' s := { h with di := h.di.low hb, fr := h.fr.trans (Fr.ob hb) }
theorem OpK.step (h : OpK pc L s0 K c w W s) (hY : StpY pc L s K W W') (hK : s.N ≤ K) : ∃ s', OpK pc L s0 K (c + 1) w W' s' := by
  obtain ⟨hfr, k, e, q, was, tg, ky, xn, xw, he, hF, hq, hn, hw, hc, hf, hlt, hd, hsub⟩ := hY
  have hb := bad_share hn hw hlt hc hf he hF hq (h.di.lt he)
  have hlen : xn.bl.length = xw.bl.length := alike_bl h.di.toDiM hn hw (fst_iff.1 hf).2.1 hc
  have hl := lb_share (K := K) hn hw (by omega) (by have := h.di.klt hn; omega) (by have := h.di.klt hw; omega) hlen (h.di.tb.ok was xw hw).pos
  have hb0 := h.bad
  have hN0 := h.N
  have key : ∀ i f, updD s.D k (some (e.setE q tg)) i = some f → ∃ g, s.D i = some g ∧ f.src = g.src ∧ f.tr = g.tr := fun i f hi => by
    rcases updD_cases hi with ⟨rfl, h1⟩ | ⟨-, h1⟩
    · cases h1; exact ⟨e, he, rfl, rfl⟩
    · exact ⟨f, h1, rfl, rfl⟩
  refine ⟨_, hd, h.fr.trans' hfr (fun _ _ h => h) (fun b _ hb => h.sub b hb), fun b hb => h.sub b (hsub b hb), ?_, ?_, h.nx, h.nm, h.ls, ?_, fun i f hi => ?_, fun i => ?_, fun hz => by omega⟩
  · show s.N + 3 ≤ _; omega
  · show badD s.ls (shareT s.T tg was xn xw) K (updD s.D k (some (e.setE q tg))) s.nx + (c + 1) ≤ _; omega
  · show lbT (shareT s.T tg was xn xw) K = _; rw [hl]; exact h.lb
  · obtain ⟨g, h1, h2, h3⟩ := key i f hi
    obtain ⟨f0, h4, h5, h6⟩ := h.src i g h1
    exact ⟨f0, h4, h2.trans h5, h3.trans h6⟩
  · show (updD s.D k (some (e.setE q tg)) i).isSome = _
    rw [← h.dom i]
    by_cases hi : i = k
    · subst hi; rw [updD_same, he]; rfl
    · rw [updD_other _ _ _ hi]
/-- What is saved more is free more. -/
theorem OpK.saved (h : OpK pc L s0 K c w W s) (h0 : DiM pc w L s0) (hK : s0.N ≤ K) (hK2 : s.N ≤ K) : savT s.T K + nfree s0.us = savT s0.T K + nfree s.us := by
  have h1 := sav_free h.di.toDiM hK2
  have h2 := sav_free h0 hK
  have h3 := h.di.tb.len
  have h4 := h0.tb.len
  rw [h.ls] at h3
  have h5 := h.lb
  omega
end
/-- What All leaves. -/
def AllY (pc : Prop) (L : Loc) (s0 : St) (K : Nat) (w : World) (e : Ending) (w' : World) : Prop := ∃ (c : Nat) (s : St), e = .returned (.tuple #[.int .i64 (c : Int), .nilIface]) ∧ OpK pc L s0 K c w w' s ∧ ∀ k e q n, s.D k = some e → q ∈ e.fl → e.F q = some n → badN s.ls s.T K n = false
set_option maxRecDepth 100000 in
set_option maxHeartbeats 8000000 in
theorem all_opt {pc : Prop} (E : Nat → Addr) (B : Nat) (L : Loc) (s0 : St) (K X : Nat) (w : World) (h : DiAt pc w L s0) (hE : Env diGs B w E) (hEB : B ≤ L.B) (hM : Ml w) (hMl : 10 < L.B) (hLB : L.B ≤ w.heap.size) (hX : badD s0.ls s0.T K s0.D s0.nx ≤ X) (hN : s0.N + 3 * X ≤ 900000) (hK : s0.N + 3 * X ≤ K) (hnm : s0.nm ≤ 1000000) (hnx : s0.nx ≤ 1000000) :
    Calls Tryz.prog 23 #[.pointer (some ⟨L.d, 0, none⟩)] w (AllY pc L s0 K w) := by
  have HBS := hidd h.toDiM.baseS
  have HE := hidd (fun W (hW : Below L.B w W) => (⟨hE.below hW hEB, by
    obtain ⟨mv, hmv⟩ := hM
    exact ⟨mv, (hW.cell (p := ⟨10, 0, none⟩) hMl).trans hmv⟩⟩ : Env diGs B W E ∧ Ml W))
  have HZ := hidd (OpK.zero (K := K) h)
  have HXX := hidd hX
  clear h hE hM hX
  go_enter Tryz.func23, Tryz.ntmps23
  go_wp2_with fail
  go_loopw [4, 5, 6] (fun vn _ _ wr => ∃ (c : Nat) (s : St), vn = .int .i64 (c : Int) ∧ OpK pc L s0 K c w wr s) (fun vn _ _ _ => X + 1 - (intOf vn).toNat)
  case atStart => exact ⟨0, s0, rfl, HZ.out⟩
  case round =>
    obtain ⟨c, s, rfl, hO⟩ := hrel
    clear HZ
    have hcX : c ≤ X := by have h1 := hO.bad; have := HXX.out; omega
    have hBw : Below L.B w wr := hO.fr.below hLB HBS.out
    have hO2 := hO.N
    have HST := hidd (step_any E B L s K wr hO.di (HE.out _ hBw).1 (HE.out _ hBw).2 (by omega) (by omega) (by rw [hO.nm]; exact hnm) (by rw [hO.nx]; exact hnx))
    have HO := hidd hO
    have hsK : s.N ≤ K := by omega
    clear hO hBw hO2
    go_wp2_with fail
    refine HST.out.mono ?_
    rintro e w2 (⟨rfl, hb, hgood⟩ | ⟨rfl, hY⟩)
    · have HP : Hid (AllY pc L s0 K w (.returned (.tuple #[.int .i64 (c : Int), .nilIface])) w2) := hidd ⟨c, s, rfl, HO.out.low hb, hgood⟩
      clear hb hgood HST
      go_wp2_with fail
      go_ret2
      exact HP.out
    · obtain ⟨s', hO'⟩ := HO.out.step hY hsK
      have hc' : c + 1 ≤ X := by have h1 := hO'.bad; have := HXX.out; omega
      have HO' := hidd hO'
      clear hY hO' HST HO
      go_wp2_with fail
      go_roundw
      case rel => exact ⟨c + 1, s', by go_num, HO'.out⟩
      case measure => simp [intOf]; omega
end Go.Proofs.YtoemahhpheobkaaGreatDoor
