/- Trees, whose list is a new one; opt.Free; the statements' closed fact of what is one. Condition: the variables read as listed. -/
import Derived.Test.YtoemahhpheobkaaGreatDoorOpD
namespace Go.Proofs.YtoemahhpheobkaaGreatDoor
open Go.RowKit Go.Shelf

/-- What Trees gives, and that it is new. -/
def TsQ (D : Nat → Option Dt) (w : World) (e : Ending) (w' : World) : Prop := ∃ (kl : List Nat) (a : Option Addr) (cap : Nat), (kl.Pairwise (· < ·) ∧ ∀ k, k ∈ kl ↔ (D k).isSome = true) ∧ kl.length ≤ 1000000 ∧ e = .returned (.slice a kl.length cap) ∧ Ow (fun g => w.heap.size ≤ g) w' 3 1 (.slice a kl.length cap) kl.length (ints kl) ∧ Below w.heap.size w w'
theorem sortedd_new (vals : List Value) (m n : Nat) (f : Int → Option Value) (w : World) (h : MapV vals w m n f) (hn : n ≤ 1000000) :
    Calls Tryz.prog 37 #[.func (.func 71) #[] #[.pointer (some ⟨w.heap.size, 0, none⟩)]] (w.alloc (.cells #[.map (some m)] 76)) fun e w' => ∃ (v : Value) (zs : List Int), e = .returned v ∧ zs.Pairwise (· < ·) ∧
      (∀ x ∈ zs, -9223372036854775808 ≤ x ∧ x ≤ 9223372036854775807) ∧ (∀ x, -9223372036854775808 ≤ x ∧ x ≤ 9223372036854775807 → (x ∈ zs ↔ (f x).isSome = true)) ∧ zs.length ≤ n ∧ Ow (fun g => w.heap.size ≤ g) w' 3 1 v zs.length (icells zs) ∧ Below w.heap.size w w' := by
  obtain ⟨D, hD, hnd, hrg, hks, hsz, hlen⟩ := h.keys
  refine (callsIn_wide.1 (Tryz.slices_Sorted_keys_37_38 m n D _ w hD (by unfold maxLen; omega) (by omega))).mono ?_
  rintro e w' ⟨v, ss, rfl, hp, hrow, hnil, hb⟩
  have tr : ∀ a b c : Int, decide (a ≤ b) = true → decide (b ≤ c) = true → decide (a ≤ c) = true := fun a b c h1 h2 => by simp only [decide_eq_true_eq] at *; omega
  have tot : ∀ a b : Int, (decide (a ≤ b) || decide (b ≤ a)) = true := fun a b => by simp only [Bool.or_eq_true, decide_eq_true_eq]; omega
  have hpm := List.mergeSort_perm ss (fun x y => decide (x ≤ y))
  have hnd2 : (ss.mergeSort (fun x y => decide (x ≤ y))).Nodup := hpm.nodup_iff.2 (hp.nodup_iff.2 hnd)
  have hpw := List.pairwise_mergeSort (le := fun x y : Int => decide (x ≤ y)) tr tot ss
  refine ⟨v, ss.mergeSort (fun x y => decide (x ≤ y)), rfl, ?_, fun x hx => hrg x (hp.mem_iff.1 (hpm.mem_iff.1 hx)), fun x hx => ?_, by rw [List.length_mergeSort, hp.length_eq]; exact hlen, ?_, ((Below.refl _ _).alloc (Nat.le_refl _) _).trans (hb.mono (by simp))⟩
  · refine (hpw.and hnd2).imp ?_
    rintro a b ⟨h1, h2⟩
    simp only [decide_eq_true_eq] at h1
    omega
  · rw [hpm.mem_iff, hp.mem_iff, hks x hx]
  · have := Ow.of_owns hrow (F := fun g => w.heap.size ≤ g) (fun g hg => by simp at hg; omega)
    rw [List.length_mergeSort]
    exact this
set_option maxRecDepth 100000 in
set_option maxHeartbeats 4000000 in
theorem dtrees_new {pc : Prop} (L : Loc) (s : St) (w : World) (h : DiM pc w L s) (hN : s.nm ≤ 1000000) (hX : s.nx ≤ 1000000) :
    Calls Tryz.prog 13 #[.pointer (some ⟨L.d, 0, none⟩)] w (TsQ s.D w) := by
  obtain ⟨vals, h0, hm⟩ := h.mp
  have hc2 := h.c1
  have HSO := hidd (sortedd_new vals L.mb s.nm (dmF s.D) w hm (by omega))
  have HF := hidd h.far
  clear h hm
  go_enter Tryz.func13, Tryz.ntmps13
  go_wp2_with fail
  refine (keysd_call L.mb _).mono ?_
  rintro e w1 ⟨rfl, rfl⟩
  go_wp2_with fail
  refine HSO.out.mono ?_
  rintro e w2 ⟨v, zs, rfl, hpw, hrg, hmem, hzl, hsl, hb⟩
  have hnn : ∀ x ∈ zs, 0 ≤ x := fun x hx => by
    have h1 := (hmem x (hrg x hx)).1 hx
    by_cases h0 : 0 ≤ x
    · exact h0
    · simp [dmF, h0] at h1
  have hzs : zs = (zs.map Int.toNat).map fun (j : Nat) => (j : Int) := by
    rw [List.map_map]
    refine Eq.trans (List.map_id zs).symm (List.map_congr_left (fun x hx => ?_))
    have := hnn x hx
    simp only [Function.comp_apply, id_eq]
    omega
  have hP : TsQ s.D w (.returned v) w2 := by
    obtain ⟨a, cap, hv⟩ := hsl.shape
    refine ⟨zs.map Int.toNat, a, cap, ⟨?_, fun k => ?_⟩, by rw [List.length_map]; omega, by rw [List.length_map, hv], ?_, hb⟩
    · refine List.pairwise_map.2 (hpw.imp_of_mem fun {x y} hx hy hxy => ?_)
      have := hnn x hx
      omega
    · rw [List.mem_map]
      constructor
      · rintro ⟨x, hx, rfl⟩
        have h1 := (hmem x (hrg x hx)).1 hx
        simpa [dmF, hnn x hx] using h1
      · intro hk
        have hkK : k < s.nx := by
          by_cases hlt : k < s.nx
          · exact hlt
          · rw [HF.out k (by omega)] at hk; cases hk
        refine ⟨(k : Int), (hmem _ (by omega)).2 ?_, by simp⟩
        simpa [dmF] using hk
    · rw [List.length_map, ← hv, ints_icells, ← hzs]
      exact hsl
  have HP := hidd hP
  clear hP hsl hb hmem hrg hpw hzs HSO HF hnn
  go_wp2_with fail
  go_ret
  exact HP.out

theorem savT_one {T : Nat → Option Ino} {a : Nat} (h : ∀ k, k ≠ a → T k = none) : ∀ K, savT T K = if a < K then savI (T a) else 0
  | 0 => by simp [savT]
  | K + 1 => by
    rw [savT, savT_one h K]
    by_cases e : K = a
    · subst e
      rw [if_neg (Nat.lt_irrefl _), if_pos (by omega)]
      omega
    · rw [h K e]
      simp only [savI, Nat.add_zero]
      by_cases h1 : a < K
      · rw [if_pos h1, if_pos (by omega)]
      · rw [if_neg h1, if_neg (by omega)]
theorem lbT_one {T : Nat → Option Ino} {a : Nat} (h : ∀ k, k ≠ a → T k = none) : ∀ K, lbT T K = if a < K then lbI (T a) else 0
  | 0 => by simp [lbT]
  | K + 1 => by
    rw [lbT, lbT_one h K]
    by_cases e : K = a
    · subst e
      rw [if_neg (Nat.lt_irrefl _), if_pos (by omega)]
      omega
    · rw [h K e]
      simp only [lbI, Nat.add_zero]
      by_cases h1 : a < K
      · rw [if_pos h1, if_pos (by omega)]
      · rw [if_neg h1, if_neg (by omega)]
theorem f0_fl {e : Dt} (h : e.src = F0.bare) : e.fl = [⟨#[47]⟩] := by
  show fileL (listed e.src) = _
  rw [h, fileL_R (show treeE F0.bare = 0 from rfl)]
  rfl
/-- Of two trees that are the one file: what each has. -/
structure TwoF (w : World) (L : Loc) (s : St) (a b : Nat) : Prop where
  di : DiAt True w L s
  nx : s.nx = 2
  d0 : ∃ e, s.D 0 = some e ∧ e.src = F0.bare ∧ e.F ⟨#[47]⟩ = some a
  d1 : ∃ e, s.D 1 = some e ∧ e.src = F0.bare ∧ e.F ⟨#[47]⟩ = some b
section
variable {w : World} {L : Loc} {s : St} {a b : Nat}
theorem f0_at {e : Dt} (hw : e.Well) (hs : e.src = F0.bare) : ∃ n, e.F ⟨#[47]⟩ = some n := by
  have h1 := (hw.dom ⟨#[47]⟩).2 (by rw [f0_fl hs]; exact List.mem_singleton.2 rfl)
  exact Option.isSome_iff_exists.1 h1
theorem cnt_f0 {e : Dt} (hs : e.src = F0.bare) {n m : Nat} (hF : e.F ⟨#[47]⟩ = some n) : cntE (some e) m = if n = m then 1 else 0 := by
  unfold cntE
  simp only
  rw [f0_fl hs]
  by_cases h : n = m <;> simp [hF, h]
theorem TwoF.lnk (h : TwoF w L s a b) (n : Nat) : lnk (s.T n) = (if a = n then 1 else 0) + (if b = n then 1 else 0) := by
  obtain ⟨e0, h1, h2, h3⟩ := h.d0
  obtain ⟨e1, k1, k2, k3⟩ := h.d1
  rw [h.di.lnk n, h.nx]
  simp only [refsN]
  rw [h1, k1, cnt_f0 h2 h3, cnt_f0 k2 k3]
  omega
theorem TwoF.ino (h : TwoF w L s a b) {n : Nat} {x : Ino} (hx : s.T n = some x) : (n = a ∨ n = b) ∧ x.data = ⟨#[120, 121]⟩ ∧ x.exec = false := by
  have h1 := h.lnk n
  have h2 := (h.di.tb.ok n x hx).pos
  rw [hx] at h1
  simp only [Go.Proofs.YtoemahhpheobkaaGreatDoor.lnk] at h1
  have key : ∀ e k, s.D k = some e → e.src = F0.bare → e.F ⟨#[47]⟩ = some n → x.data = ⟨#[120, 121]⟩ ∧ x.exec = false := fun e k he hs hF => by
    have h3 := h.di.dat trivial k e he ([], F0.bare) (by rw [hs]; exact List.mem_singleton.2 rfl) n x hF hx
    exact h3
  obtain ⟨e0, g1, g2, g3⟩ := h.d0
  obtain ⟨e1, k1, k2, k3⟩ := h.d1
  by_cases ha : a = n
  · subst ha
    exact ⟨.inl rfl, key e0 0 g1 g2 g3⟩
  · by_cases hb : b = n
    · subst hb
      exact ⟨.inr rfl, key e1 1 k1 k2 k3⟩
    · rw [if_neg ha, if_neg hb] at h1
      omega
theorem TwoF.ky (h : TwoF w L s a b) {n : Nat} {x : Ino} (hx : s.T n = some x) : kyI s.ls s.T n = some (⟨#[120, 121]⟩, false) := by
  obtain ⟨-, h2, h3⟩ := h.ino hx
  unfold kyI
  rw [hx, Option.bind_some, rdI_pc h.di.toDiM trivial hx, h2, h3]
  rfl
theorem TwoF.has (h : TwoF w L s a b) : (∃ x, s.T a = some x) ∧ ∃ x, s.T b = some x := by
  have h1 := h.lnk a
  have h2 := h.lnk b
  rw [if_pos rfl] at h1
  rw [if_pos (rfl : b = b)] at h2
  constructor
  · cases hT : s.T a with
    | none => rw [hT] at h1; simp only [Go.Proofs.YtoemahhpheobkaaGreatDoor.lnk] at h1; omega
    | some x => exact ⟨x, rfl⟩
  · cases hT : s.T b with
    | none => rw [hT] at h2; simp only [Go.Proofs.YtoemahhpheobkaaGreatDoor.lnk] at h2; omega
    | some x => exact ⟨x, rfl⟩
/-- At most one of them is not the least. -/
theorem TwoF.bad (h : TwoF w L s a b) (K : Nat) : badD s.ls s.T K s.D s.nx ≤ 1 := by
  obtain ⟨e0, g1, g2, g3⟩ := h.d0
  obtain ⟨e1, k1, k2, k3⟩ := h.d1
  rw [h.nx]
  unfold badD
  simp only [sumN]
  rw [g1, k1]
  have hc : ∀ (e : Dt) n, e.src = F0.bare → e.F ⟨#[47]⟩ = some n → cntB s.ls s.T K (some e) = if badN s.ls s.T K n = true then 1 else 0 := fun e n hs hF => by
    unfold cntB
    simp only
    rw [f0_fl hs]
    have : badQ s.ls s.T K e ⟨#[47]⟩ = badN s.ls s.T K n := by unfold badQ; rw [hF]
    by_cases hb : badN s.ls s.T K n = true
    · simp [this, hb]
    · simp [this, hb]
  rw [hc e0 a g2 g3, hc e1 b k2 k3]
  by_cases ha : badN s.ls s.T K a = true
  · by_cases hb : badN s.ls s.T K b = true
    · exfalso
      obtain ⟨c, t, c1, c2, c3⟩ := badN_true.1 ha
      obtain ⟨d, u, d1, d2, d3⟩ := badN_true.1 hb
      obtain ⟨⟨xa, hxa⟩, xb, hxb⟩ := h.has
      rw [h.ky hxa] at c1
      rw [h.ky hxb] at d1
      cases c1
      cases d1
      rw [c2] at d2
      cases d2
      obtain ⟨-, t1, -⟩ := fst_iff.1 c2
      have ht : ∃ y, s.T t = some y := by
        cases hT : s.T t with
        | none => unfold kyI at t1; rw [hT] at t1; cases t1
        | some y => exact ⟨y, rfl⟩
      obtain ⟨y, hy⟩ := ht
      rcases (h.ino hy).1 with e | e <;> omega
    · rw [if_pos ha, if_neg hb]; omega
  · rw [if_neg ha]
    split <;> omega
/-- Where none is bad both are one. -/
theorem TwoF.same (h : TwoF w L s a b) {K : Nat} (hK : s.N ≤ K) (hb : ∀ k e q n, s.D k = some e → q ∈ e.fl → e.F q = some n → badN s.ls s.T K n = false) : a = b := by
  obtain ⟨⟨xa, hxa⟩, xb, hxb⟩ := h.has
  rcases Nat.lt_trichotomy a b with hl | hl | hl
  · exact (apart_end h.di hK hb hl (h.ky hxa) (h.ky hxb)).elim
  · exact hl
  · exact (apart_end h.di hK hb hl (h.ky hxb) (h.ky hxa)).elim
theorem TwoF.end_ (h : TwoF w L s a a) {K : Nat} (hK : s.N ≤ K) : savT s.T K = 1 := by
  obtain ⟨⟨x, hx⟩, -⟩ := h.has
  have h1 : ∀ k, k ≠ a → s.T k = none := fun k hk => by
    cases hT : s.T k with
    | none => rfl
    | some y =>
      rcases (h.ino hT).1 with e | e
      · exact absurd e hk
      · exact absurd e hk
  have h2 := h.lnk a
  rw [hx] at h2
  simp only [Go.Proofs.YtoemahhpheobkaaGreatDoor.lnk, if_true] at h2
  have h3 : x.bl.length = 1 := by rw [(h.di.tb.ok a x hx).len, (h.ino hx).2.1]; rfl
  have haK : a < K := Nat.lt_of_lt_of_le (h.di.klt hx) hK
  have h4 := savT_one h1 K
  rw [if_pos haK, hx] at h4
  simp only [savI, h2, h3] at h4
  exact h4
theorem savT_zero {T : Nat → Option Ino} (h : ∀ k x, T k = some x → x.links = 1) : ∀ K, savT T K = 0
  | 0 => rfl
  | K + 1 => by
    rw [savT, savT_zero h K]
    cases hT : T K with
    | none => rfl
    | some x => simp [savI, h K x hT]
theorem TwoF.start (h : TwoF w L s a b) (hab : a ≠ b) (K : Nat) : savT s.T K = 0 := savT_zero (fun k x hx => by
  have h1 := h.lnk k
  rw [hx] at h1
  simp only [Go.Proofs.YtoemahhpheobkaaGreatDoor.lnk] at h1
  rcases (h.ino hx).1 with rfl | rfl
  · rw [if_pos rfl, if_neg (fun e => hab e.symm)] at h1; exact h1
  · rw [if_neg hab, if_pos rfl] at h1; exact h1) K
end
set_option maxRecDepth 100000 in
set_option maxHeartbeats 8000000 in
theorem shared_true (E : Nat → Addr) (B : Nat) (w : World) (hE : Env diGs B w E) (hM : Ml w) (hMl : 10 < w.heap.size) :
    Calls Tryz.prog 20 #[] w fun e w' => e = .returned (.bool true) ∧ Below w.heap.size w w' := by
  have HE := hidd hE
  have HM := hidd hM
  have HDO := hidd (dirsOf_ok 4 w (by omega) (by omega))
  clear hE hM
  go_enter Tryz.func20, Tryz.ntmps20
  go_wp2_with fail
  refine HDO.out.mono ?_
  rintro e w1 ⟨L, dv, rfl, hLB, hD1, hb1⟩
  have hz1 := hb1.size
  have hEB : B ≤ L.B := by rw [hLB]; exact HE.out.size
  have hML : 10 < L.B := by rw [hLB]; exact hMl
  have hf4 : nfree (List.replicate 4 false) = 4 := by decide
  have hPT := dput_ok E B L _ F0 w1 (f0_ok w1) (f0_in _) hD1 (HE.out.ob hb1) hEB (HM.out.ob hb1) hML (by rw [hLB]; exact hz1) (by show 0 ≤ 500000; omega) (by show 0 ≤ 500000; omega) (by show 0 ≤ 500000; omega) f0_right (by rw [f0_need]; show 1 ≤ nfree (List.replicate 4 false); omega)
  have HPT : Hid (Calls Tryz.prog 8 #[.pointer (some ⟨L.d, 0, none⟩), .agg #[.string ⟨#[102, 105, 108, 101]⟩, .string ⟨#[120, 121]⟩, .bool false, .slice none 0 0]] w1 (PtP True L ⟨0, 0, fun _ => none, List.replicate 4 false, List.replicate 4 (zb 16), fun _ => none, 0⟩ F0 w1)) := hidd hPT
  have HB1 := hidd hb1
  have HBS := hidd hD1.toDiM.baseS
  clear hPT hD1 hb1 HDO
  go_wp2_with fail
  refine HPT.out.mono ?_
  rintro e w2 ⟨rfl, hf2, e1, s1, hsrc, -, hsD, hsnx, hsnm, hsN, -, hfree, hD2, -⟩
  have hB2 : Below w.heap.size w w2 := HB1.out.trans (hf2.below hz1 (fun b hb => by rw [← hLB]; exact HBS.out b hb))
  have hz2 := hB2.size
  have hs1nx : s1.nx = 0 := hsnx
  have hs1D : s1.D = fun _ => none := hsD
  have hfr1 : nfree s1.us = 3 := by
    have h1 : nfree s1.us + needS (listed F0) = nfree (List.replicate 4 false) := hfree
    rw [f0_need] at h1
    omega
  have hN1 : s1.N = 1 := hsN
  have hnm1 : s1.nm = 0 := hsnm
  have he1 : (putS s1 e1).D 0 = some e1 := by
    show updD s1.D s1.nx (some e1) 0 = _
    rw [hs1nx, updD_same]
  have hPT := dput_ok E B L (putS s1 e1) F0 w2 (f0_ok w2) (f0_in _) hD2 (HE.out.ob hB2) hEB (HM.out.ob hB2) hML (by rw [hLB]; exact hz2) (by show s1.N ≤ 500000; omega) (by show s1.nm + 1 ≤ 500000; omega) (by show s1.nx + 1 ≤ 500000; omega) f0_right (by rw [f0_need]; show 1 ≤ nfree s1.us; omega)
  have HPT2 : Hid (Calls Tryz.prog 8 #[.pointer (some ⟨L.d, 0, none⟩), .agg #[.string ⟨#[102, 105, 108, 101]⟩, .string ⟨#[120, 121]⟩, .bool false, .slice none 0 0]] w2 (PtP True L (putS s1 e1) F0 w2)) := hidd hPT
  have HB2 := hidd hB2
  have HBS2 := hidd hD2.toDiM.baseS
  obtain ⟨a0, ha0⟩ := f0_at (hD2.well 0 e1 he1) (hsrc.trans rfl)
  have HA0 : Hid (∃ x, (putS s1 e1).T a0 = some x ∧ x.links = 1) := hidd (by
    obtain ⟨x, hx, -⟩ := hD2.ino he1 ha0
    refine ⟨x, hx, ?_⟩
    have h1 := hD2.lnk a0
    rw [hx] at h1
    have h2 : (putS s1 e1).nx = 1 := by show s1.nx + 1 = 1; omega
    rw [h2] at h1
    simp only [refsN] at h1
    rw [he1, cnt_f0 hsrc ha0, if_pos rfl] at h1
    exact h1)
  have HE1 := hidd (⟨he1, hsrc, ha0⟩ : (putS s1 e1).D 0 = some e1 ∧ e1.src = F0.bare ∧ e1.F ⟨#[47]⟩ = some a0)
  clear hPT hf2 hD2 hB2 hfree he1 hsrc hsD hsnx hsnm hsN HPT ha0
  rw [show (⟨0, 0, fun _ => none, List.replicate 4 false, List.replicate 4 (zb 16), fun _ => none, 0⟩ : St).nx = 0 from rfl]
  go_wp2_with fail
  refine HPT2.out.mono ?_
  rintro e w3 ⟨rfl, hf3, e2, s3, hsrc2, -, hsD2, hsnx2, hsnm2, hsN2, hold, hfree2, hD3, -⟩
  have hB3 : Below w.heap.size w w3 := HB2.out.trans (hf3.below hz2 (fun b hb => by rw [← hLB]; exact HBS2.out b hb))
  have hz3 := hB3.size
  have hs3nx : s3.nx = 1 := by rw [hsnx2]; show s1.nx + 1 = 1; omega
  have hd1 : (putS s3 e2).D 1 = some e2 := by
    show updD s3.D s3.nx (some e2) 1 = _
    rw [hs3nx, updD_same]
  have hd0 : (putS s3 e2).D 0 = some e1 := by
    show updD s3.D s3.nx (some e2) 0 = _
    rw [hs3nx, updD_other _ _ _ (by omega), hsD2]
    exact HE1.out.1
  obtain ⟨b0, hb0⟩ := f0_at (hD3.well 1 e2 hd1) (hsrc2.trans rfl)
  have hTW : TwoF w3 L (putS s3 e2) a0 b0 := ⟨hD3, by show s3.nx + 1 = 2; omega, ⟨e1, hd0, HE1.out.2.1, HE1.out.2.2⟩, ⟨e2, hd1, hsrc2, hb0⟩⟩
  have hab : a0 ≠ b0 := by
    rintro rfl
    obtain ⟨x, hx, hl⟩ := HA0.out
    have h1 := hTW.lnk a0
    have h2 : (putS s3 e2).T a0 = some x := hold a0 x hx
    rw [h2, if_pos rfl] at h1
    simp only [Go.Proofs.YtoemahhpheobkaaGreatDoor.lnk] at h1
    omega
  have hfr3 : nfree s3.us = 2 := by
    have h1 : nfree s3.us + needS (listed F0) = nfree s1.us := hfree2
    rw [f0_need] at h1
    omega
  have hN3 : (putS s3 e2).N = 2 := by
    show s3.N = 2
    rw [hsN2]
    show s1.N + 1 = 2
    omega
  have hnm3 : (putS s3 e2).nm ≤ 1000000 := by
    show s3.nm + 1 ≤ 1000000
    rw [hsnm2]
    show s1.nm + 1 + 1 ≤ 1000000
    omega
  have HAL := hidd (all_opt E B L (putS s3 e2) 1000 1 w3 hD3 (HE.out.ob hB3) hEB (HM.out.ob hB3) hML (by rw [hLB]; exact hz3) (hTW.bad 1000) (by rw [hN3]; omega) (by rw [hN3]; omega) hnm3 (by show s3.nx + 1 ≤ 1000000; omega))
  have HTW := hidd hTW
  have HBS3 := hidd hD3.toDiM.baseS
  have HB3 := hidd hB3
  have HN3 := hidd (⟨hN3, hfr3⟩ : (putS s3 e2).N = 2 ∧ nfree s3.us = 2)
  have HAB := hidd hab
  have hnx1 : ((putS s1 e1).nx : Int) = 1 := by have h2 : (putS s1 e1).nx = 1 := by show s1.nx + 1 = 1; omega
                                                rw [h2]; rfl
  rw [hnx1]
  clear hf3 hD3 hB3 hfree2 hd0 hd1 hsrc2 hsD2 hsnx2 hsnm2 hsN2 hold HPT2 hb0 hTW hN3 hnm3 HE1 HA0 hnx1
  go_wp2_with fail
  refine HAL.out.mono ?_
  rintro e w4 ⟨c, s, rfl, hO, hgood⟩
  have hB4 : Below w.heap.size w w4 := HB3.out.trans (hO.fr.below hz3 (fun b hb => by rw [← hLB]; exact HBS3.out b hb))
  have hget : ∀ k, ((putS s3 e2).D k).isSome = true → (∀ f, (putS s3 e2).D k = some f → f.src = F0.bare) → ∃ e n, s.D k = some e ∧ e.src = F0.bare ∧ e.F ⟨#[47]⟩ = some n := fun k hk hf => by
    rw [← hO.dom k] at hk
    obtain ⟨e, he⟩ := Option.isSome_iff_exists.1 hk
    obtain ⟨f, h1, h2, -⟩ := hO.src k e he
    have h3 := h2.trans (hf f h1)
    obtain ⟨n, hn⟩ := f0_at (hO.di.well k e he) h3
    exact ⟨e, n, he, h3, hn⟩
  obtain ⟨g0, i1, i2, -⟩ := HTW.out.d0
  obtain ⟨g1, j1, j2, -⟩ := HTW.out.d1
  obtain ⟨f0, a1, m1, m2, m3⟩ := hget 0 (by rw [i1]; rfl) (fun f hf => by rw [i1] at hf; cases hf; exact i2)
  obtain ⟨f1, b1, n1, n2, n3⟩ := hget 1 (by rw [j1]; rfl) (fun f hf => by rw [j1] at hf; cases hf; exact j2)
  have hT4 : TwoF w4 L s a1 b1 := ⟨hO.di, by rw [hO.nx]; exact HTW.out.nx, ⟨f0, m1, m2, m3⟩, ⟨f1, n1, n2, n3⟩⟩
  have hc1 : c ≤ 1 := by have h1 := hO.bad; have h2 := HTW.out.bad 1000; omega
  have hsN4 : s.N ≤ 1000 := by have h1 := hO.N; have h2 := HN3.out.1; omega
  obtain rfl : a1 = b1 := hT4.same hsN4 hgood
  have hc0 : c ≠ 0 := fun hc => by
    have h1 := hO.z hc
    subst h1
    exact HAB.out (HTW.out.same (K := 1000) hsN4 hgood)
  obtain rfl : c = 1 := by omega
  have hsv : savT s.T 1000 = 1 := hT4.end_ hsN4
  have hfe : nfree s.us = 3 := by
    have h1 := hO.saved HTW.out.di.toDiM (by have h2 := HN3.out.1; omega) hsN4
    rw [hsv, HTW.out.start HAB.out] at h1
    have h2 : nfree (putS s3 e2).us = 2 := HN3.out.2
    omega
  have HSV := hidd (saved_any L s 1000 w4 hO.di.toDiM (by omega) hsN4)
  rw [hsv] at HSV
  have HFR := hidd (fun W (hW : Below w4.heap.size w4 W) => (ifree_any L.t L.p L.ps L.rs L.m s.us W (hO.di.low hW).tb.tab (hO.di.low hW).tb.sp).mono (fun e w' h => (show e = .returned (.int .i64 3) ∧ Below W.heap.size W w' from ⟨by rw [h.1, hfe]; rfl, h.2⟩)))
  have HTB := hidd (fun W (hW : Below w4.heap.size w4 W) => dtable_any L s W (hO.di.low hW).toDiM)
  have HB4 := hidd hB4
  clear hO hgood hB4 hget i1 i2 j1 j2 m1 m2 m3 n1 n2 n3 hT4 hsv hfe HAL hc0 hc1
  go_wp2_with fail
  refine HSV.out.mono ?_
  rintro e w5 ⟨rfl, hb5⟩
  have HB5 := hidd hb5
  clear hb5 HSV
  go_wp2_with fail
  refine (HTB.out w5 HB5.out).mono ?_
  rintro e w5' ⟨rfl, rfl⟩
  go_wp2_with fail
  refine (HFR.out w5 HB5.out).mono ?_
  rintro e w6 ⟨rfl, hb6⟩
  have HB6 : Hid (Below w.heap.size w w6) := hidd ((HB4.out.trans (HB5.out.mono HB4.out.size)).trans (hb6.mono (by have := HB5.out.size; have := HB4.out.size; omega)))
  clear hb6
  go_wp2_with fail
  go_ret
  exact ⟨rfl, HB6.out⟩
end Go.Proofs.YtoemahhpheobkaaGreatDoor
