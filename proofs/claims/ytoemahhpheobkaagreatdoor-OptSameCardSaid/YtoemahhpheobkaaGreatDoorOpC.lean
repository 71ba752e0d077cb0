/- opt.file, opt.Step, opt.All: what they leave. Condition: the dirs are there. -/
import Derived.Test.YtoemahhpheobkaaGreatDoorOpB
import Derived.Test.YtoemahhpheobkaaGreatDoorDlD
namespace Go.Proofs.YtoemahhpheobkaaGreatDoor
open Go.RowKit Go.Shelf

/-- What file answers. -/
def FlQ (s : St) (K n : Nat) (w : World) (e : Ending) (w' : World) : Prop := (∃ tg : Int, e = .returned (.tuple #[.int .i64 tg, .bool (badN s.ls s.T K n)]) ∧ (badN s.ls s.T K n = true → ∃ c t, kyI s.ls s.T n = some c ∧ fstI s.ls s.T K c = some t ∧ tg = (t : Int) ∧ t < n)) ∧ Below w.heap.size w w'
set_option maxRecDepth 100000 in
set_option maxHeartbeats 8000000 in
theorem file_opt {pc : Prop} (E : Nat → Addr) (B : Nat) (L : Loc) (s : St) (K m nn k : Nat) (q : ByteArray) (e0 : Dt) (w : World) (h : DiAt pc w L s) (hE : Env diGs B w E) (hM : Ml w) (hN : s.N ≤ 1000000) (hK : s.N ≤ K) (hm : MapQ w m nn (fstI s.ls s.T K)) (hk : K64 (k : Int)) (he : s.D k = some e0) (hq : q ∈ e0.fl) (hqs : q.size ≤ 1001) :
    Calls Tryz.prog 50 #[.pointer (some ⟨L.d, 0, none⟩), .map (some m), .int .i64 (k : Int), .string q] w fun e w' => ∃ n, e0.F q = some n ∧ FlQ s K n w e w' := by
  obtain ⟨n, x, hFn, hx, hin⟩ := fl_ino h he hq
  have hIN := dinode_any E B L s (k : Int) q w h.toDiM hE hM hk (by omega)
  rw [hin] at hIN
  simp only [inoV] at hIN
  have HIN := hidd hIN
  have HH := hidd (fun W (hW : Below w.heap.size w W) => (⟨h.low hW, hE.ob hW, hm.low hW⟩ : DiAt pc W L s ∧ Env diGs B W E ∧ MapQ W m nn (fstI s.ls s.T K)))
  have hkN : n < s.N := h.klt hx
  have hds := (h.tb.ok n x hx).size
  have HTB := hidd (fun W (hW : Below w.heap.size w W) => dtable_any L s W (h.low hW).toDiM)
  have HRD := hidd (fun W (hW : Below w.heap.size w W) => dread_any E B L s n x W (h.low hW).toDiM (hE.ob hW) hN hx)
  have HST := hidd (fun W (hW : Below w.heap.size w W) => stat_ok L.B L.t L.p L.r L.ps L.rs L.m s.N s.T s.us s.ls n x W (h.low hW).tb (by omega) hx)
  have hky : kyI s.ls s.T n = (rdI s.ls x).map fun d => (d, x.exec) := by unfold kyI; rw [hx]; rfl
  have HFN := hidd hFn
  have HX := hidd hx
  clear hIN hin h hE hM hm he hq hFn hx
  obtain ⟨xe, hxe⟩ : ∃ b, x.exec = b := ⟨_, rfl⟩
  cases hrI : rdI s.ls x with
  | none =>
    rw [hrI] at HRD hky
    simp only [rdV] at HRD
    unfold erv at HRD
    have hbn : badN s.ls s.T K n = false := by unfold badN; rw [hky]; rfl
    have HBN := hidd hbn
    clear hky hrI hbn
    go_enter Tryz.func50, Tryz.ntmps50
    go_wp2_with fail
    refine HIN.out.mono ?_
    rintro e w2 ⟨rfl, hb2⟩
    have HB2 := hidd hb2
    clear hb2 HIN
    go_wp2_with fail
    refine (HTB.out w2 HB2.out).mono ?_
    rintro e w2' ⟨rfl, rfl⟩
    go_wp2_with fail
    refine (HRD.out w2 HB2.out).mono ?_
    rintro e w3 ⟨rfl, hb3⟩
    have HB3 := hidd (HB2.out.trans (hb3.mono HB2.out.size))
    have HP : Hid (∃ n', e0.F q = some n' ∧ FlQ s K n' w (.returned (.tuple #[.int .i64 0, .bool false])) w3) := hidd ⟨n, HFN.out, ⟨0, by rw [HBN.out], fun h => by rw [HBN.out] at h; cases h⟩, HB3.out⟩
    clear hb3 HRD
    go_wp2_with fail
    go_ret2
    exact HP.out
  | some d =>
    rw [hrI] at HRD hky
    simp only [rdV] at HRD
    have hky' : kyI s.ls s.T n = some (d, xe) := by rw [hky, ← hxe]; rfl
    have hdz : d.size ≤ 2000 := Nat.le_trans (rdI_le hrI) hds
    obtain ⟨t, htn, hft⟩ := fst_some (K := K) hky' (by omega)
    have hbn : badN s.ls s.T K n = decide (t < n) := by unfold badN; rw [hky']; simp only [hft]
    have HBN := hidd hbn
    have HFT := hidd (⟨hky', hft⟩ : kyI s.ls s.T n = some (d, xe) ∧ fstI s.ls s.T K (d, xe) = some t)
    clear hky hky' hrI hbn hft
    go_enter Tryz.func50, Tryz.ntmps50
    go_wp2_with fail
    refine HIN.out.mono ?_
    rintro e w2 ⟨rfl, hb2⟩
    have HB2 := hidd hb2
    clear hb2 HIN
    go_wp2_with fail
    refine (HTB.out w2 HB2.out).mono ?_
    rintro e w2' ⟨rfl, rfl⟩
    go_wp2_with fail
    refine (HRD.out w2 HB2.out).mono ?_
    rintro e w3 ⟨rfl, hb3⟩
    have HB3 := hidd (HB2.out.trans (hb3.mono HB2.out.size))
    clear hb3 HRD
    go_wp2_with fail
    refine (HTB.out w3 HB3.out).mono ?_
    rintro e w3' ⟨rfl, rfl⟩
    go_wp2_with fail
    refine (HST.out w3 HB3.out).mono ?_
    rintro e w4 ⟨sa, sc, rfl, -, hb4⟩
    have hb4' := HB3.out.trans (hb4.mono HB3.out.size)
    obtain ⟨xd, hxd⟩ : ∃ v : Int, ((x.data.size : Nat) : Int) = v := ⟨_, rfl⟩
    obtain ⟨xc, hxc⟩ : ∃ v : Int, ((crc x.data.data.toList : Nat) : Int) = v := ⟨_, rfl⟩
    obtain ⟨xb, hxb⟩ : ∃ v : Nat, x.bl.length = v := ⟨_, rfl⟩
    obtain ⟨xl, hxl⟩ : ∃ v : Nat, x.links = v := ⟨_, rfl⟩
    rw [hxd, hxc, hxb, hxl, hxe]
    have hx5 := Blk.new w4 [.int .i64 xd, .int .i64 (xl : Int), .bool xe, .slice sa xb sc, .int .u32 xc] 54
    have hb5 : Below w.heap.size w (w4.alloc (.cells #[.int .i64 xd, .int .i64 (xl : Int), .bool xe, .slice sa xb sc, .int .u32 xc] 54)) := hb4'.alloc hb4'.size _
    have hl5 := (HH.out _ hb5).2.2.look (c := (d, xe)) (by show d.size ≤ _; omega)
    rw [show fmK (fstI s.ls s.T K) (d, xe) = some (.int .i64 (t : Int)) by unfold fmK; rw [HFT.out.2]; rfl] at hl5
    simp only [Option.getD_some] at hl5
    have HB5 := hidd hb5
    clear hb4 hb4' hxd hxc hxb hxl hb5
    go_upto_region 8 with fail
    generalize w4.alloc (.cells #[.int .i64 xd, .int .i64 (xl : Int), .bool xe, .slice sa xb sc, .int .u32 xc] 54) = w5 at *
    have x2 := hx5.cell (i := 2) rfl
    have HP : Hid (∀ b, b = decide ((t : Int) < (n : Int)) → ∃ n', e0.F q = some n' ∧ FlQ s K n' w (.returned (.tuple #[.int .i64 (t : Int), .bool b])) w5) := hidd (fun b hb => ⟨n, HFN.out, ⟨(t : Int), by
        rw [HBN.out, hb]
        congr 5
        simp, fun h => ⟨_, t, HFT.out.1, HFT.out.2, rfl, by rw [HBN.out] at h; simpa using h⟩⟩, HB5.out⟩)
    clear hx5
    by_cases htl : t < n
    · have p1 : (t : Int) < (n : Int) := by omega
      have p2 : decide ((t : Int) < (n : Int)) = true := decide_eq_true p1
      have HP' := hidd (HP.out true p2.symm)
      clear HP
      go_wp2_with fail
      go_ret2
      exact HP'.out
    · have p1 : ¬ ((t : Int) < (n : Int)) := by omega
      have p2 : decide ((t : Int) < (n : Int)) = false := decide_eq_false p1
      have HP' := hidd (HP.out false p2.symm)
      clear HP
      go_wp2_with fail
      go_ret2
      exact HP'.out

/-- What a step turns. -/
def StpY (pc : Prop) (L : Loc) (s : St) (K : Nat) (w w' : World) : Prop := Fr (diS L s) w w' ∧ ∃ (k : Nat) (e : Dt) (q : ByteArray) (was tg : Nat) (c : ByteArray × Bool) (xn xw : Ino), s.D k = some e ∧ e.F q = some was ∧ q ∈ e.fl ∧ s.T tg = some xn ∧ s.T was = some xw ∧ kyI s.ls s.T was = some c ∧ fstI s.ls s.T K c = some tg ∧ tg < was ∧
  DiAt pc w' L (shS s k e q tg was xn xw) ∧ (∀ b, diS L (shS s k e q tg was xn xw) b → diS L s b)
/-- What Step leaves. -/
def StpP (pc : Prop) (L : Loc) (s : St) (K : Nat) (w : World) (e : Ending) (w' : World) : Prop :=
  (e = .returned (.tuple #[.bool false, .nilIface]) ∧ Below w.heap.size w w' ∧ ∀ k e q n, s.D k = some e → q ∈ e.fl → e.F q = some n → badN s.ls s.T K n = false) ∨ (e = .returned (.tuple #[.bool true, .nilIface]) ∧ StpY pc L s K w w')
/-- Sharing a file with the least one of its key is well. -/
theorem stp_of {pc : Prop} {E : Nat → Addr} {L : Loc} {s : St} {K : Nat} {w w' : World} {k : Nat} {e0 : Dt} {q : ByteArray} {n t : Nat} {c : ByteArray × Bool} {e : Ending} (h : DiAt pc w L s) (he : s.D k = some e0) (hq : q ∈ e0.fl) (hF : e0.F q = some n) (hc : kyI s.ls s.T n = some c) (hf : fstI s.ls s.T K c = some t) (htn : t < n)
    (hP : ShP pc E L s (k : Int) q (t : Int) w e w') : e = .returned .nilIface ∧ StpY pc L s K w w' := by
  obtain ⟨n', x, hF', hx, hin⟩ := fl_ino h he hq
  obtain rfl : n' = n := by rw [hF] at hF'; exact (Option.some.inj hF').symm
  obtain ⟨-, htc, -⟩ := fst_iff.1 hf
  have hky : ∀ m y, s.T m = some y → kyI s.ls s.T m = some c → ∃ d, rdI s.ls y = some d ∧ c = (d, y.exec) := fun m y hy hm => by
    unfold kyI at hm
    rw [hy] at hm
    simp only [Option.bind_some, Option.map_eq_some_iff] at hm
    obtain ⟨d, h1, h2⟩ := hm
    exact ⟨d, h1, h2.symm⟩
  have hxt : ∃ y, s.T t = some y := by
    cases hT : s.T t with
    | none => unfold kyI at htc; rw [hT] at htc; cases htc
    | some y => exact ⟨y, rfl⟩
  obtain ⟨y, hy⟩ := hxt
  obtain ⟨d1, r1, c1⟩ := hky n' x hx hc
  obtain ⟨d2, r2, c2⟩ := hky t y hy htc
  have hd : d1 = d2 := by rw [c1] at c2; exact (Prod.mk.inj c2).1
  have hex : x.exec = y.exec := by rw [c1] at c2; exact (Prod.mk.inj c2).2
  have hsh : shE E s (k : Int) q (t : Int) = none := by
    unfold shE
    rw [hin]
    simp only
    rw [if_pos (by omega)]
    simp only [Int.toNat_natCast, hy]
    rw [if_neg (by omega)]
    simp only [hx, r1, r2]
    rw [if_pos (by rw [hd, hex]; simp)]
  rcases hP with ⟨v, h1, -⟩ | ⟨-, -, -, was, h1, h2⟩ | ⟨-, he', hfr, k', t', was, e1, xn, xw, h1, h2, h3, h4, h5, h6, h7, h8, h9⟩
  · rw [hsh] at h1; cases h1
  · rw [hin] at h1
    cases h1
    omega
  · have hkk : k' = k := by omega
    have htt : t' = t := by omega
    subst hkk htt
    rw [he] at h3
    cases h3
    rw [hF] at h4
    cases h4
    exact ⟨he', hfr, k', e0, q, n', t', c, xn, xw, he, hF, hq, h5, h6, hc, hf, htn, h8, h9⟩

set_option maxRecDepth 100000 in
set_option maxHeartbeats 8000000 in
theorem step_any {pc : Prop} (E : Nat → Addr) (B : Nat) (L : Loc) (s : St) (K : Nat) (w : World) (h : DiAt pc w L s) (hE : Env diGs B w E) (hM : Ml w) (hN : s.N ≤ 900000) (hK : s.N ≤ K) (hnm : s.nm ≤ 1000000) (hnx : s.nx ≤ 1000000) :
    Calls Tryz.prog 24 #[.pointer (some ⟨L.d, 0, none⟩)] w (StpP pc L s K w) := by
  have HH := hidd (fun W (hW : Below w.heap.size w W) => (⟨h.low hW, hE.ob hW, hM.ob hW⟩ : DiAt pc W L s ∧ Env diGs B W E ∧ Ml W))
  have HFS := hidd (firsts_any E B L s K w h.toDiM hE (by omega) hK)
  have HTB := hidd (dtable_any L s w h.toDiM)
  have HWL := hidd (fun k e (hk : s.D k = some e) => (⟨h.lt hk, (by
    have h0 := (h.well k e hk).right
    have h1 : (∀ q ∈ fileL (listed (e.src.map fun _ => Value.nilIface)), q.size ≤ 1001) ∧ (fileL (listed (e.src.map fun _ => Value.nilIface))).length ≤ 200 := fileL_fine (by rw [treeE_map]; exact h0)
    have h2 : fileL (listed (e.src.map fun _ => Value.nilIface)) = e.fl := by
      show _ = fileL (listed e.src)
      rw [fileL_R (by rw [treeE_map]; exact h0), fileL_R h0, filesR_mapd, List.map_map]
      rfl
    rw [h2] at h1
    exact h1)⟩ : k < s.nx ∧ (∀ q ∈ e.fl, q.size ≤ 1001) ∧ e.fl.length ≤ 200))
  clear h hE hM
  go_enter Tryz.func24, Tryz.ntmps24
  go_wp2_with fail
  refine HTB.out.mono ?_
  rintro e w' ⟨rfl, rfl⟩
  go_wp2_with fail
  refine HFS.out.mono ?_
  rintro e w2 ⟨m, nn, rfl, hmq, hb2⟩
  have HMQ := hidd hmq
  have HB2 := hidd hb2
  have HTR := hidd (dtrees_any L s w2 (HH.out w2 hb2).1.toDiM hnm hnx)
  clear hmq hb2 HFS HTB
  go_wp2_with fail
  refine HTR.out.mono ?_
  rintro e w3 ⟨kl, ka, kcap, hkl, hkl1, rfl, hksl, hb3⟩
  have HKL := hidd hkl
  have hb3' := HB2.out.trans (hb3.mono HB2.out.size)
  have HKK := hidd (fun W (hW : Below w3.heap.size w3 W) => (⟨hksl.ob hW (Nat.le_refl _), HMQ.out.low (hb3.trans (hW.mono hb3.size)), hb3'.trans (hW.mono hb3'.size)⟩ : Sl W (.slice ka kl.length kcap) (ints kl) kl.length 1 ∧ MapQ W m nn (fstI s.ls s.T K) ∧ Below w.heap.size w W))
  clear hkl hksl hb3 hb3' HTR HMQ HB2
  go_wp2_with fail
  go_loopw [6, 8, 9, 10, 20, 26, 27, 28] (fun _ _ _ _ iv _ _ _ wr => ∃ i : Nat, i ≤ kl.length ∧ iv = .int .i64 (i : Int) ∧ (∀ j (hj : j < kl.length), j < i → ∀ e q n, s.D kl[j] = some e → q ∈ e.fl → e.F q = some n → badN s.ls s.T K n = false) ∧ Below w3.heap.size w3 wr) (fun _ _ _ _ iv _ _ _ _ => kl.length - (intOf iv).toNat)
  case atStart => exact ⟨0, Nat.zero_le _, rfl, fun j _ hj => by omega, Below.refl _ _⟩
  case round =>
    obtain ⟨i, hi, rfl, hgood, hbel⟩ := hrel
    obtain ⟨hsl, hmq, hbw⟩ := HKK.out _ hbel
    by_cases hlt : i < kl.length
    · obtain ⟨b1, o1, rfl, hb1, hc1, hr1⟩ := hsl.at1 hlt
      rw [show (ints kl)[i] = .int .i64 (kl[i] : Int) by simp [ints]] at hr1
      obtain ⟨e0, he0⟩ := Option.isSome_iff_exists.1 ((HKL.out.2 _).1 (List.getElem_mem hlt))
      have HG0 : Hid ((∀ q n, q ∈ e0.fl → e0.F q = some n → badN s.ls s.T K n = false) → ∀ j (hj : j < kl.length), j < i + 1 → ∀ e q n, s.D kl[j] = some e → q ∈ e.fl → e.F q = some n → badN s.ls s.T K n = false) := hidd (fun h j hj hji e q n hD hq hF => by
        by_cases hje : j = i
        · subst hje
          rw [he0] at hD
          cases hD
          exact h q n hq hF
        · exact hgood j hj (by omega) e q n hD hq hF)
      obtain ⟨k, hk⟩ : ∃ k, kl[i] = k := ⟨_, rfl⟩
      rw [hk] at hr1 he0
      obtain ⟨hkx, hfine, hfl200⟩ := HWL.out k e0 he0
      have hk64 : K64 (k : Int) := ⟨by omega, by omega⟩
      have HFI := hidd (dfiles_any E B L s k e0 wr (HH.out _ hbw).1 (HH.out _ hbw).2.1 hk64 he0)
      have HE0 := hidd he0
      have HFN := hidd hfine
      have HBEL := hidd hbel
      have p1 : (0 : Int) ≤ (i : Int) := by omega
      have p2 : (i : Int) < (kl.length : Int) := by omega
      clear hgood hsl hmq hbw hbel he0 hfine hk hc1
      go_wp2_with fail
      refine HFI.out.mono ?_
      rintro e w4 ⟨fv, rfl, hfo, hb4⟩
      obtain ⟨fa, fc, rfl⟩ := hfo.shape
      obtain ⟨fl, hfle⟩ : ∃ l, e0.fl = l := ⟨_, rfl⟩
      have HFE := hidd hfle
      rw [hfle] at hfo HG0 HFN hfl200 ⊢
      have HB34 := hidd (HBEL.out.trans (hb4.mono HBEL.out.size))
      have HFW := hidd (fun W (hW : Below w4.heap.size w4 W) => (⟨hfo.sl.ob hW (Nat.le_refl _), HB34.out.trans (hW.mono HB34.out.size)⟩ : Sl W (.slice fa fl.length fc) (tcells fl) fl.length 1 ∧ Below w3.heap.size w3 W))
      clear hfo hb4 hfle HFI hr1 hb1
      go_wp2_with fail
      go_loopw [8, 9, 10, 28] (fun _ _ _ tv wr => ∃ t : Nat, t ≤ fl.length ∧ tv = .int .i64 (t : Int) ∧ (∀ q ∈ fl.take t, ∀ n, e0.F q = some n → badN s.ls s.T K n = false) ∧ Below w4.heap.size w4 wr) (fun _ _ _ tv _ => fl.length - (intOf tv).toNat)
      case atStart => exact ⟨0, Nat.zero_le _, rfl, (fun q hq => by simp at hq), Below.refl _ _⟩
      case round =>
        obtain ⟨t, ht, rfl, hgd, hbt⟩ := hrel
        obtain ⟨hfs, hb3w⟩ := HFW.out _ hbt
        obtain ⟨-, hmq, hbw⟩ := HKK.out _ hb3w
        by_cases htl : t < fl.length
        · obtain ⟨b3, o3, rfl, hb3, hc3, hr3⟩ := hfs.at1 htl
          rw [show (tcells fl)[t] = .string fl[t] by simp [tcells]] at hr3
          have hq1 := HFN.out _ (List.getElem_mem htl)
          have hqm : fl[t] ∈ e0.fl := by rw [HFE.out]; exact List.getElem_mem htl
          have htk : fl.take (t + 1) = fl.take t ++ [fl[t]] := List.take_succ_eq_append_getElem htl
          obtain ⟨q, hq⟩ : ∃ q, fl[t] = q := ⟨_, rfl⟩
          rw [hq] at hr3 hq1 hqm htk
          have HFO := hidd (file_opt E B L s K m nn k q e0 wr (HH.out _ hbw).1 (HH.out _ hbw).2.1 (HH.out _ hbw).2.2 (by omega) hK hmq hk64 HE0.out hqm hq1)
          have HGD : Hid (∀ n, e0.F q = some n → badN s.ls s.T K n = false → ∀ r ∈ fl.take (t + 1), ∀ n, e0.F r = some n → badN s.ls s.T K n = false) := hidd (fun n hn hb r hr n' hn' => by
            rw [htk] at hr
            rcases List.mem_append.1 hr with h | h
            · exact hgd r h n' hn'
            · simp only [List.mem_cons, List.not_mem_nil, or_false] at h
              subst h
              rw [hn] at hn'
              cases hn'
              exact hb)
          have HQM := hidd hqm
          have HBT := hidd hbt
          have q1 : (0 : Int) ≤ (t : Int) := by omega
          have q2 : (t : Int) < (fl.length : Int) := by omega
          clear hgd hfs hb3w hmq hbw hbt hc3 hq hqm htk
          go_wp2_with fail
          refine HFO.out.mono ?_
          rintro e w5 ⟨n, hFn, ⟨tg, rfl, hto⟩, hb5⟩
          have HB5 := hidd (HBT.out.trans (hb5.mono HBT.out.size))
          have HFN5 := hidd hFn
          clear hb5 HFO hr3 hb3 hFn
          cases hbn : badN s.ls s.T K n with
          | true =>
            obtain ⟨c, t', hc, hf, rfl, htn⟩ := hto hbn
            have hbw5 := (HKK.out _ (HFW.out _ HB5.out).2).2.2
            have hHH := HH.out _ hbw5
            have ht6 : t' ≤ 1000000 := by
              have h1 := (fst_iff.1 hf).2.1
              unfold kyI at h1
              cases hT : s.T t' with
              | none => rw [hT] at h1; cases h1
              | some y =>
                have := hHH.1.klt hT
                omega
            have HSH := hidd ((dshare_any E B L s (k : Int) q (t' : Int) w5 hHH.1 hHH.2.1 hHH.2.2 hN hk64 ⟨by omega, by omega⟩ (by omega)).mono (fun e w6 hP => stp_of hHH.1 HE0.out HQM.out HFN5.out hc hf htn hP))
            have HBW := hidd hbw5
            clear hto hbn hc hf htn hbw5 hHH
            go_wp2_with fail
            refine HSH.out.mono ?_
            rintro e w6 ⟨rfl, hfr, hY⟩
            have HP : Hid (StpP pc L s K w (.returned (.tuple #[.bool true, .nilIface])) w6) := hidd (.inr ⟨rfl, (Fr.ob (S := fun _ => False) HBW.out).trans' hfr (fun _ _ h => h.elim) (fun _ _ h => h), hY⟩)
            clear hfr hY HSH
            go_wp2_with fail
            go_ret2
            exact HP.out
          | false =>
            have HNX := hidd (HGD.out n HFN5.out hbn)
            clear hto hbn HGD
            go_wp2_with fail
            go_roundw
            case rel => exact ⟨t + 1, by omega, by go_num, HNX.out, HB5.out⟩
            case measure => simp [intOf]; omega
        · obtain rfl : t = fl.length := by omega
          rw [List.take_of_length_le (Nat.le_refl _)] at hgd
          have HNX := hidd (HG0.out (fun q n hq hF => hgd q hq n hF))
          have HB3 := hidd hb3w
          have q2 : ¬ ((fl.length : Int) < (fl.length : Int)) := by omega
          clear hgd hfs hmq hbw hbt hb3w
          go_wp2_with fail
          go_roundw
          case rel => exact ⟨i + 1, by omega, by go_num, HNX.out, HB3.out⟩
          case measure => simp [intOf]; omega
    · obtain rfl : i = kl.length := by omega
      have HP : Hid (StpP pc L s K w (.returned (.tuple #[.bool false, .nilIface])) wr) := hidd (.inl ⟨rfl, hbw, fun k e q n hD hq hF => by
        obtain ⟨j, hj, hjk⟩ := List.getElem_of_mem ((HKL.out.2 k).2 (by rw [hD]; rfl))
        subst hjk
        exact hgood j hj (by omega) e q n hD hq hF⟩)
      have p2 : ¬ ((kl.length : Int) < (kl.length : Int)) := by omega
      clear hgood hsl hmq hbw hbel
      go_wp2_with fail
      go_ret2
      exact HP.out
end Go.Proofs.YtoemahhpheobkaaGreatDoor
