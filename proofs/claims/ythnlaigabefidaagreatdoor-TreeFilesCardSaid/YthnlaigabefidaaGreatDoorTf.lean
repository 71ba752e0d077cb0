/- stillroomlaw1.TreeFiles, walked. Condition: the tree is there, the variables read as listed. -/
import Derived.Test.YthnlaigabefidaaGreatDoorPaL
import Derived.Test.YthnlaigabefidaaGreatDoorTrT
import Derived.Test.YthnlaigabefidaaGreatDoorTrD
import Derived.Test.YthnlaigabefidaaGreatDoorTrB
namespace Go.Proofs.YthnlaigabefidaaGreatDoor
open Go.RowKit Go.Shelf
section
variable {α : Type}
/-- The sizes of the first files. -/
def fsum (t : Tr α) (i : Nat) : Nat := (((filesR t).take i).map fun x => x.2.data.size).sum
theorem files_at {t : Tr α} (h : treeE t = 0) {i : Nat} (hi : i < (fileL (listed t)).length) : ∃ f : Tr α, getOf t (fileL (listed t))[i] = .ok f ∧ f.kind = kFile ∧ fsum t (i + 1) = fsum t i + f.data.size := by
  have e := fileL_R h
  have hl : (fileL (listed t)).length = (filesR t).length := by rw [e, List.length_map]
  have hi' : i < (filesR t).length := by omega
  obtain ⟨h1, h2⟩ := filesR_get h (List.getElem_mem hi')
  refine ⟨_, ?_, h2, ?_⟩
  · rw [← h1]
    congr 1
    simp only [e, List.getElem_map]
  · unfold fsum
    rw [List.take_succ_eq_append_getElem hi', List.map_append, List.sum_append, List.map_cons, List.map_nil, List.sum_cons, List.sum_nil, Nat.add_zero]
theorem fsum_all {t : Tr α} (h : treeE t = 0) {i : Nat} (hi : (fileL (listed t)).length ≤ i) : fsum t i = fileSz (listed t) := by
  rw [fileL_R h, List.length_map] at hi
  unfold fsum
  rw [List.take_of_length_le hi, fileSz_R h]
theorem sum_take_le (l : List Nat) (i : Nat) : (l.take i).sum ≤ l.sum := by
  have e := congrArg List.sum (List.take_append_drop i l)
  rw [List.sum_append] at e
  omega
theorem fsum_le {t : Tr α} (h : treeE t = 0) (i : Nat) : fsum t i ≤ fileSz (listed t) := by
  rw [fileSz_R h]
  unfold fsum
  rw [List.map_take]
  exact sum_take_le _ i
end
theorem right_fileSz {t : Lt} (h : treeE t = 0) : fileSz (listed t) ≤ 400000 := by
  obtain ⟨h1, h2⟩ := fine_of h
  have h3 := fileSz_le (l := listed t) (fun x hx => by rw [listed_of h] at hx; exact (h1 x hx).2)
  rw [listed_len h] at h3
  have : 2000 * t.sz ≤ 2000 * 200 := Nat.mul_le_mul_left _ h2
  omega

/-- What holds between the calls. -/
structure TfK (E : Nat → Addr) (B : Nat) (w : World) (x : Lt) (px : Nat) (lv : Value) (L : List ByteArray) (W : World) : Prop where
  below : Below w.heap.size w W
  ox : x.Ok W
  env : Env codeGs B W E
  ml : Ml W
  bx : Blk W px (ncells x) 24
  sl : Sl W lv (tcells L) L.length 1
section
variable {E : Nat → Addr} {B : Nat} {w W W' : World} {x : Lt} {px : Nat} {lv : Value} {L : List ByteArray}
theorem TfK.later (h : TfK E B w x px lv L W) (hb : Below W.heap.size W W') : TfK E B w x px lv L W' :=
  ⟨h.below.trans (hb.mono h.below.size), h.ox.ob hb, h.env.ob hb, h.ml.ob hb, h.bx.below hb h.bx.lt, h.sl.ob hb (Nat.le_refl _)⟩
theorem TfK.drew (h : TfK E B w x px lv L W) : TfK E B w x px lv L W.drew := h.later (Below.refl _ _).drew
theorem TfK.drewN (h : TfK E B w x px lv L W) (n : Nat) : TfK E B w x px lv L (W.drewN n) := h.later (Below.drewN _ _ _)
theorem TfK.alloc (h : TfK E B w x px lv L W) (o : Obj) : TfK E B w x px lv L (W.alloc o) := h.later ((Below.refl _ _).alloc (Nat.le_refl _) o)
theorem TfK.c {kx dx : ByteArray} {ex : Bool} {vx : Value} {ksx : List (ByteArray × Lt)} {b off n cap i : Nat} {s : ByteArray} (h : TfK E B w (.mk kx dx ex vx ksx) px (.slice (some ⟨b, off, none⟩) n cap) L W) (hn : n = L.length) (hi : L[i]? = some s) :
    W.cell? ⟨px, 0, none⟩ = some (.string kx) ∧ W.cell? ⟨px, 1, none⟩ = some (.string dx) ∧ W.cell? ⟨px, 2, none⟩ = some (.bool ex) ∧ W.cell? ⟨px, 3, none⟩ = some vx ∧ W.cell? ⟨b, off + i, none⟩ = some (.string s) := by
  subst hn
  obtain ⟨hlt, he⟩ := List.getElem?_eq_some_iff.1 hi
  obtain ⟨b', off', e, -, hc, hcell⟩ := h.sl.at1 hlt
  simp only [Option.some.injEq, Addr.mk.injEq] at e
  obtain ⟨rfl, rfl, -⟩ := e
  refine ⟨h.bx.cell (i := 0) rfl, h.bx.cell (i := 1) rfl, h.bx.cell (i := 2) rfl, h.bx.cell (i := 3) rfl, ?_⟩
  rw [hcell]
  simp [tcells, he]
end
/-- A file that is got. -/
def GkP (da : ByteArray) (W : World) (e : Ending) (w' : World) : Prop :=
  ∃ (ey : Bool) (ya : Option Addr) (yc : Nat) (n : Nat), e = .returned (.tuple #[.agg #[.string kFile, .string da, .bool ey, .slice ya n yc], .nilIface]) ∧ Below W.heap.size W w'
theorem get_file (E : Nat → Addr) (B : Nat) (t f : Lt) (s : ByteArray) (w : World) (ht : t.Ok w) (hE : Env trGs B w E) (hM : Ml w) (hs : s.size < 4294967281) (hg : getOf t s = .ok f) (hk : f.kind = kFile) :
    Calls Tryz.prog 11 #[nval t, .string s] w (GkP f.data w) :=
  (get_any E B t s w ht hE hM hs).mono fun e w' ⟨hb, hr⟩ => by
    rcases hr with ⟨c, hc, -⟩ | ⟨x, y, hx, -, rfl, hbr, hyo, -⟩
    · rw [hg] at hc; cases hc
    · obtain rfl := Except.ok.inj (hg.symm.trans hx)
      obtain ⟨ya, yc, hyv⟩ := hyo.shape
      rw [Tr.bare_iff] at hbr
      refine ⟨y.exec, ya, yc, y.kids.length, ?_, hb⟩
      unfold nval
      rw [hbr.1, hbr.2.1, hk, hyv]

/-- Where the file lies that was got. -/
def TfY (E : Nat → Addr) (B : Nat) (w : World) (x : Lt) (px : Nat) (lv : Value) (L : List ByteArray) (dt : ByteArray) (p er : Value) (W : World) : Prop :=
  ∃ (py : Nat) (ey : Bool) (ya : Option Addr) (yc n : Nat), p = .pointer (some ⟨py, 0, none⟩) ∧ er = .nilIface ∧ Blk W py [.string kFile, .string dt, .bool ey, .slice ya n yc] 24 ∧ TfK E B w x px lv L W
theorem TfK.got {E : Nat → Addr} {B : Nat} {w W w' : World} {x : Lt} {px : Nat} {lv : Value} {L : List ByteArray} {z0 z1 z2 z3 v0 v1 v2 v3 : Value} (h : TfK E B w x px lv L W)
    (hb : Below (W.alloc (.cells #[z0, z1, z2, z3] 24)).heap.size (W.alloc (.cells #[z0, z1, z2, z3] 24)).drew w') :
    Blk w' W.heap.size [z0, z1, z2, z3] 24 ∧ Blk ((((w'.setCell ⟨W.heap.size, 0, none⟩ v0).setCell ⟨W.heap.size, 1, none⟩ v1).setCell ⟨W.heap.size, 2, none⟩ v2).setCell ⟨W.heap.size, 3, none⟩ v3) W.heap.size [v0, v1, v2, v3] 24 ∧
      TfK E B w x px lv L ((((w'.setCell ⟨W.heap.size, 0, none⟩ v0).setCell ⟨W.heap.size, 1, none⟩ v1).setCell ⟨W.heap.size, 2, none⟩ v2).setCell ⟨W.heap.size, 3, none⟩ v3) := by
  have h1 := (Blk.new W [z0, z1, z2, z3] 24).drew.below hb (by simp)
  have hB : Below W.heap.size W w' := ((Below.refl W.heap.size W).alloc (Nat.le_refl _) (.cells #[z0, z1, z2, z3] 24)).drew.trans (hb.mono (by simp))
  exact ⟨h1, h1.four, h.later (((((hB.setCell (p := ⟨W.heap.size, 0, none⟩) (Nat.le_refl _) _).setCell (p := ⟨W.heap.size, 1, none⟩) (Nat.le_refl _) _).setCell (p := ⟨W.heap.size, 2, none⟩) (Nat.le_refl _) _).setCell (p := ⟨W.heap.size, 3, none⟩) (Nat.le_refl _) _))⟩

set_option maxRecDepth 100000 in
set_option maxHeartbeats 40000000 in
theorem treeFiles_true (E : Nat → Addr) (B : Nat) (t : Lt) (w : World) (ht : t.Ok w) (hE : Env codeGs B w E) (hh : Hnd w) (hM : Ml w) :
    Calls Tryz.prog 3 #[nval t] w fun e w' => e = .returned (.bool true) ∧ Below w.heap.size w w' := by
  obtain ⟨a, cap, hv⟩ := ht.shape
  have hB1 : Below w.heap.size w (w.alloc (.cells #[.string t.kind, .string t.data, .bool t.exec, .slice a t.kids.length cap] 24)) := (Below.refl _ _).alloc (Nat.le_refl _) _
  have hb1 := Blk.new w [.string t.kind, .string t.data, .bool t.exec, .slice a t.kids.length cap] 24
  have hE1 := hE.ob hB1
  have hh1 := hh.below hB1 (Nat.le_refl _)
  have HM1 := hidd (hM.ob hB1)
  have ht1 := ht.ob hB1
  have HLG := hidd (fun W (h : t.Ok W) => large_any t 100 W h (by omega))
  have HOW := hidd (fun W (h : t.Ok W) (hs : t.sz ≤ 300) => own_any 300 t W hs (Nat.le_refl _) h)
  unfold nval at HLG HOW ⊢
  rw [hv] at HLG HOW ⊢
  have HO1 := hidd ht1
  clear hv ht1 hM
  go_enter Tryz.func3, Tryz.ntmps3
  go_wp2_with fail
  refine (treed_true E B _ hE1 hh1).mono ?_
  rintro e w2 ⟨rfl, hb2⟩
  have hB2 := hB1.trans (hb2.mono hB1.size)
  have hk2 := hb1.below hb2 hb1.lt
  have x0 := hk2.cell (i := 0) rfl
  have x1 := hk2.cell (i := 1) rfl
  have x2 := hk2.cell (i := 2) rfl
  have x3 := hk2.cell (i := 3) rfl
  have hE2 := hE1.ob hb2
  have HO2 := hidd (HO1.out.ob hb2)
  have HM2 := hidd (HM1.out.ob hb2)
  clear hE1 hh1 hb1 HO1 hb2 hB1 hh HM1
  go_wp2_with fail
  refine (HLG.out _ HO2.out).mono ?_
  rintro e w3 ⟨hres, hb3⟩
  have hB3 := hB2.trans (hb3.mono hB2.size)
  have hk3 := hk2.below hb3 hk2.lt
  have y0 := hk3.cell (i := 0) rfl
  have y1 := hk3.cell (i := 1) rfl
  have y2 := hk3.cell (i := 2) rfl
  have y3 := hk3.cell (i := 3) rfl
  have hE3 := hE2.ob hb3
  have HO3 := hidd (HO2.out.ob hb3)
  have HM3 := hidd (HM2.out.ob hb3)
  clear hE2 HO2 hb3 hB2 hk2 x0 x1 x2 x3 HM2
  rcases hres with ⟨rfl, hsm⟩ | rfl
  · have hs300 : t.sz ≤ 300 := by have := hsm.many; omega
    clear hsm
    go_wp2_with fail
    refine (HOW.out _ HO3.out hs300).mono ?_
    rintro e w4 ⟨xa, xc, ks, rfl, hbr, hok, -, hb4⟩
    have hB4 := hB3.trans (hb4.mono hB3.size)
    have hE4 := hE3.ob hb4
    have hM4 := HM3.out.ob hb4
    obtain ⟨kd, hkd⟩ : ∃ kd, t.kind = kd := ⟨_, rfl⟩
    obtain ⟨da, hda⟩ : ∃ da, t.data = da := ⟨_, rfl⟩
    obtain ⟨ex, hex⟩ : ∃ ex, t.exec = ex := ⟨_, rfl⟩
    rw [hkd, hda, hex] at hok hbr ⊢
    clear hE3 HO3 hb4 hB3 hbr hE ht y0 y1 y2 y3 hk3 HM3
    have hB5 : Below w4.heap.size w4 (w4.alloc (.cells #[.string kd, .string da, .bool ex, .slice xa ks.length xc] 24)) := (Below.refl _ _).alloc (Nat.le_refl _) _
    have hb5 := Blk.new w4 [.string kd, .string da, .bool ex, .slice xa ks.length xc] 24
    have hE5 := hE4.ob hB5
    have hM5 := hM4.ob hB5
    have hok5 := hok.ob hB5
    have hle := hok.le
    simp only [Tr.kids] at hle
    have hBB5 := hB4.trans (hB5.mono hB4.size)
    obtain ⟨X, hX⟩ : ∃ X : Lt, X = .mk kd da ex (.slice xa ks.length xc) ks := ⟨_, rfl⟩
    have hK5 : Hid (∀ lv L, Sl (w4.alloc (.cells #[.string kd, .string da, .bool ex, .slice xa ks.length xc] 24)) lv (tcells L) L.length 1 → TfK E B w (.mk kd da ex (.slice xa ks.length xc) ks) w4.heap.size lv L (w4.alloc (.cells #[.string kd, .string da, .bool ex, .slice xa ks.length xc] 24))) :=
      hidd (fun lv L h => ⟨hBB5, hok5, hE5, hM5, hb5, h⟩)
    have hK0 := hidd (hK5.out (.slice none 0 0) [] (Sl.nil _ _))
    have HF := hidd (files_any E B (Tr.mk kd da ex (.slice xa ks.length xc) ks : Lt) _ hok5 hE5)
    have HK := hidd (fun W (h : (Tr.mk kd da ex (.slice xa ks.length xc) ks : Lt).Ok W) (hE : Env codeGs B W E) => check_any E B (Tr.mk kd da ex (.slice xa ks.length xc) ks : Lt) W h hE)
    have HZ := hidd (fun W (h : (Tr.mk kd da ex (.slice xa ks.length xc) ks : Lt).Ok W) (hE : Env codeGs B W E) => size_any E B (Tr.mk kd da ex (.slice xa ks.length xc) ks : Lt) W h hE)
    simp only [nval, Tr.kind, Tr.data, Tr.exec, Tr.v] at HK HZ HF
    clear hB4 hB5 hE4 hok hM4 hE5 hM5 hok5 hBB5 hX
    by_cases h0 : treeE (Tr.mk kd da ex (.slice xa ks.length xc) ks : Lt) = 0
    · rw [h0, evc_zero] at HK
      have HAT : Hid (∀ (i : Nat) (s : ByteArray), (fileL (listed (Tr.mk kd da ex (.slice xa ks.length xc) ks : Lt)))[i]? = some s → ∃ f : Lt, getOf (Tr.mk kd da ex (.slice xa ks.length xc) ks : Lt) s = .ok f ∧ f.kind = kFile ∧ fsum (Tr.mk kd da ex (.slice xa ks.length xc) ks : Lt) (i + 1) = fsum (Tr.mk kd da ex (.slice xa ks.length xc) ks : Lt) i + f.data.size) := hidd (fun i s hs => by
        obtain ⟨hi, he⟩ := List.getElem?_eq_some_iff.1 hs
        have := files_at h0 hi
        rwa [he] at this)
      have HND := hidd (fileL_nodup h0)
      have HFA := hidd (fun i (hi : (fileL (listed (Tr.mk kd da ex (.slice xa ks.length xc) ks : Lt))).length ≤ i) => fsum_all h0 hi)
      have HFE := hidd (fun i => fsum_le h0 i)
      have hfz := right_fileSz h0
      have HSZ : Hid (∀ s ∈ fileL (listed (Tr.mk kd da ex (.slice xa ks.length xc) ks : Lt)), s.size < 4294967281) := hidd (fun s hs => by
        rw [fileL_R h0] at hs
        obtain ⟨x, hx, rfl⟩ := List.mem_map.1 hs
        have hx' := (List.mem_filter.1 hx).1
        obtain ⟨-, h2, -⟩ := preR_at _ _ (Nat.le_refl _) h0 x hx'
        have h3 := preR_deep h0 x hx'
        have h4 := joined_bd (l := x.1) (fun y hy => by
          rw [List.all_eq_true] at h2
          have := h2 y hy
          unfold isName at this
          simp only [Bool.and_eq_true, decide_eq_true_eq] at this
          omega)
        have h5 : (pathOf (jt x.1)).size ≤ (jt x.1).size + 1 := by
          unfold pathOf Lib.maxS
          split
          · show (1 : Nat) ≤ _; omega
          · omega
        rw [jt_size] at h5
        omega)
      obtain ⟨L, hL⟩ : ∃ L, fileL (listed (Tr.mk kd da ex (.slice xa ks.length xc) ks : Lt)) = L := ⟨_, rfl⟩
      obtain ⟨Z, hZ⟩ : ∃ Z, fileSz (listed (Tr.mk kd da ex (.slice xa ks.length xc) ks : Lt)) = Z := ⟨_, rfl⟩
      obtain ⟨S, hS⟩ : ∃ S, fsum (Tr.mk kd da ex (.slice xa ks.length xc) ks : Lt) = S := ⟨_, rfl⟩
      rw [hL] at HF HSZ HND
      rw [hZ] at HZ hfz
      simp only [hL, hZ, hS] at HAT HFA HFE
      have hS0 : S 0 = 0 := by rw [← hS]; simp [fsum]
      have HGT : Hid (∀ (W : World) (s dt : ByteArray), (Tr.mk kd da ex (.slice xa ks.length xc) ks : Lt).Ok W → Env codeGs B W E → Ml W → s.size < 4294967281 → (∃ f : Lt, getOf (Tr.mk kd da ex (.slice xa ks.length xc) ks : Lt) s = .ok f ∧ f.kind = kFile ∧ f.data = dt) → Calls Tryz.prog 11 #[nval (Tr.mk kd da ex (.slice xa ks.length xc) ks : Lt), .string s] W (GkP dt W)) := hidd (fun W s dt h hE hM hs ⟨f, hg, hk, hd⟩ => by
        rw [← hd]
        exact get_file E B (Tr.mk kd da ex (.slice xa ks.length xc) ks : Lt) f s W h hE.tr hM hs hg hk)
      unfold nval at HGT
      rw [show Tr.kind (Tr.mk kd da ex (.slice xa ks.length xc) ks : Lt) = kd from rfl, show Tr.data (Tr.mk kd da ex (.slice xa ks.length xc) ks : Lt) = da from rfl, show Tr.exec (Tr.mk kd da ex (.slice xa ks.length xc) ks : Lt) = ex from rfl, show Tr.v (Tr.mk kd da ex (.slice xa ks.length xc) ks : Lt) = .slice xa ks.length xc from rfl] at HGT
      clear h0 hL hZ hS
      go_wp2_with fail
      refine HF.out.mono ?_
      rintro e w6 ⟨fv, rfl, hof, hb6⟩
      obtain ⟨fa, fc, rfl⟩ := hof.shape
      have hq6 : TfK E B w (.mk kd da ex (.slice xa ks.length xc) ks) w4.heap.size (.slice fa L.length fc) L w6 := by
        have h := hK0.out.later hb6
        exact ⟨h.below, h.ox, h.env, h.ml, h.bx, hof.sl⟩
      have x0 := hq6.bx.cell (i := 0) (v := .string kd) rfl
      have x1 := hq6.bx.cell (i := 1) (v := .string da) rfl
      have x2 := hq6.bx.cell (i := 2) (v := .bool ex) rfl
      have x3 := hq6.bx.cell (i := 3) (v := .slice xa ks.length xc) rfl
      have hfm := hof.sl.le
      clear hof hb6 HF hK5 hK0 hb5
      go_wp2_with fail
      refine (HK.out _ hq6.ox hq6.env).mono ?_
      rintro e w7 ⟨rfl, hb7⟩
      have hq7 := hq6.later hb7
      clear x0 x1 x2 x3 hq6 hb7 HK
      go_wp2_with fail
      go_loopw [6, 7, 8, 9, 10] (fun z i _ _ _ wr => ∃ k : Nat, k ≤ L.length ∧ i = .int .i64 (k : Int) ∧ z = .int .i64 ((S k : Nat) : Int) ∧ TfK E B w (.mk kd da ex (.slice xa ks.length xc) ks) w4.heap.size (.slice fa L.length fc) L wr) (fun _ i _ _ _ _ => L.length - (intOf i).toNat)
      case atStart => exact ⟨0, Nat.zero_le _, rfl, by rw [hS0]; rfl, hq7⟩
      case round =>
        obtain ⟨k, hk, rfl, rfl, hq⟩ := hrel
        clear hq7
        by_cases hlt : k < L.length
        · obtain ⟨b, off, rfl, -⟩ := hq.sl.at1 hlt
          obtain ⟨f, hf1, hf2, hf3⟩ := HAT.out k _ (List.getElem?_eq_getElem hlt)
          have hfe := HFE.out (k + 1)
          have hgi : L[k]? = some L[k] := List.getElem?_eq_getElem hlt
          have hsz := HSZ.out _ (List.getElem_mem hlt)
          have HNE := hidd (show ∀ j (hj : j < L.length), j < k → L[j] ≠ L[k] from fun j hj hjk => List.pairwise_iff_getElem.1 HND.out j k hj hlt hjk)
          have p1 : (0 : Int) ≤ (k : Int) := by omega
          have p2 : (k : Int) < (L.length : Int) := by omega
          obtain ⟨s, hs⟩ : ∃ s, L[k] = s := ⟨_, rfl⟩
          rw [hs] at hf1 hgi hsz
          have HNE2 := hidd (show ∀ j (hj : j < L.length), j < k → L[j] ≠ s from fun j hj hjk => by rw [← hs]; exact HNE.out j hj hjk)
          have HG := hidd (fun W (h : TfK E B w (.mk kd da ex (.slice xa ks.length xc) ks) w4.heap.size (.slice (some ⟨b, off, none⟩) L.length fc) L W) => HGT.out W s f.data h.ox h.env h.ml hsz ⟨f, hf1, hf2, rfl⟩)
          have HGI := hidd hgi
          obtain ⟨dt, hdt⟩ : ∃ dt, f.data = dt := ⟨_, rfl⟩
          rw [hdt] at HG hf3
          have H3 := hidd hf3
          rw [hf3] at hfe
          obtain ⟨S0, hS0'⟩ : ∃ S0, S k = S0 := ⟨_, rfl⟩
          rw [hS0'] at hfe H3 ⊢
          have hqd := hq.drew
          clear hs HNE hf1 hf2 hf3 hdt hgi hS0' hsz
          go_upto_region 12 with fail
          go_cut [8, 9] from 36 to 44 (fun p er wx => TfY E B w (.mk kd da ex (.slice xa ks.length xc) ks) w4.heap.size (.slice (some ⟨b, off, none⟩) L.length fc) L dt p er wx)
          case first =>
            have hz : wr.drew.heap.size = wr.heap.size := rfl
            first
              | (go_region_held3 (fun W' => W'.cell? ⟨w4.heap.size, 0, none⟩ = some (.string kd) ∧ W'.cell? ⟨w4.heap.size, 1, none⟩ = some (.string da) ∧ W'.cell? ⟨w4.heap.size, 2, none⟩ = some (.bool ex) ∧ W'.cell? ⟨w4.heap.size, 3, none⟩ = some (.slice xa ks.length xc) ∧ W'.cell? ⟨b, off + k, none⟩ = some (.string s))
                  (first | exact TfK.c (by assumption) rfl HGI.out | exact TfK.c (TfK.alloc (by assumption) _) rfl HGI.out | exact TfK.c (TfK.drew (TfK.alloc (by assumption) _)) rfl HGI.out)
                  (first
                    | (go_at_call 11; (with_reducible refine (HG.out _ hqd).mono ?_); rintro e w' ⟨ey, ya, yc, yn, rfl, hbl⟩; have hq8 := hqd.later hbl)
                    | (go_at_call 11; (with_reducible refine (HG.out _ (hq.alloc _).drew).mono ?_); rintro e w' ⟨ey, ya, yc, yn, rfl, hbl⟩; have hq8 := (hq.alloc _).drew.later hbl; obtain ⟨hn1, hn2, hn3⟩ := hq.got (v0 := .string kFile) (v1 := .string dt) (v2 := .bool ey) (v3 := .slice ya yn yc) hbl; have z0 := hn1.cell (i := 0) rfl; have z1 := hn1.cell (i := 1) rfl; have z2 := hn1.cell (i := 2) rfl; have z3 := hn1.cell (i := 3) rfl; have f0 := hn1.frozen 0; have f1 := hn1.frozen 1; have f2 := hn1.frozen 2; have f3 := hn1.frozen 3)))
              | fail
            all_goals
              go_wp2_with fail
              go_meet
              first
                | exact ⟨_, ey, ya, yc, yn, rfl, rfl, hn2, hn3⟩
                | exact ⟨_, ey, ya, yc, yn, rfl, rfl, Blk.new _ _ _, hq8.alloc _⟩
          case rest =>
            obtain ⟨py, ey, ya, yc, yn, rfl, rfl, hby, hqy⟩ := hcut
            have q1 : (kFile.toList == [102, 105, 108, 101]) = true := by rw [kFile_list]; rfl
            have y0 := hby.cell (i := 0) rfl
            have y1 := hby.cell (i := 1) rfl
            have hsum : S0 + dt.size ≤ 400000 := by omega
            clear hq hqd hby
            go_wp2_with fail
            have hk1 : k + 1 ≤ L.length := hlt
            go_loopw [10] (fun c wi => ∃ j : Nat, j ≤ k ∧ c = .int .i64 (j : Int) ∧ TfK E B w (.mk kd da ex (.slice xa ks.length xc) ks) w4.heap.size (.slice (some ⟨b, off, none⟩) L.length fc) L wi) (fun c _ => k - (intOf c).toNat)
            case atStart => exact ⟨0, Nat.zero_le _, rfl, hqy⟩
            case round =>
              obtain ⟨j, hj, rfl, hqi⟩ := hrel
              clear hqy y0 y1
              by_cases hjk : j < k
              · have hjL : j < L.length := by omega
                have hck := (hqi.c (i := k) (n := L.length) rfl HGI.out).2.2.2.2
                have hcj := (hqi.c (i := j) (n := L.length) rfl (List.getElem?_eq_getElem hjL)).2.2.2.2
                have hne := beq_str (HNE2.out j hjL hjk)
                generalize L[j] = u at *
                have q2 : (0 : Int) ≤ (j : Int) := by omega
                have q3 : (j : Int) < (L.length : Int) := by omega
                have HQI := hidd hqi
                clear hqi
                go_wp2_with fail
                go_quiet (fail)
                go_wp2_with fail
                go_roundw
                case rel => exact ⟨j + 1, by omega, by go_num, HQI.out.drewN _⟩
                case measure => simp [intOf]; omega
              · obtain rfl : j = k := by omega
                go_wp2_with fail
                go_roundw
                case rel => exact ⟨j + 1, hk1, by go_num, by rw [H3.out]; exact congrArg (Value.int .i64) (by omega), hqi⟩
                case measure => simp [intOf]; omega
        · have hkl : k = L.length := by omega
          have hSk := HFA.out k (by omega)
          obtain ⟨S0, hS0'⟩ : ∃ S0, S k = S0 := ⟨_, rfl⟩
          rw [hS0'] at hSk ⊢
          subst hSk
          have x0 := hq.bx.cell (i := 0) (v := .string kd) rfl
          have x1 := hq.bx.cell (i := 1) (v := .string da) rfl
          have x2 := hq.bx.cell (i := 2) (v := .bool ex) rfl
          have x3 := hq.bx.cell (i := 3) (v := .slice xa ks.length xc) rfl
          have hbq := hq.below
          have hxo := hq.ox
          have hxe := hq.env
          clear hS0' hq hkl
          go_wp2_with fail
          refine (HZ.out _ hxo hxe).mono ?_
          rintro e w9 ⟨rfl, hb9⟩
          have hB9 := hbq.trans (hb9.mono hbq.size)
          clear hbq hb9 hxo hxe x0 x1 x2 x3
          go_wp2_with fail
          go_ret
          exact ⟨rfl, hB9⟩
    · rw [evc_ne h0] at HK
      have hl0 : listed (Tr.mk kd da ex (.slice xa ks.length xc) ks : Lt) = [] := if_neg h0
      rw [hl0, show fileL ([] : List (It Value)) = [] from rfl] at HF
      clear h0 hl0
      go_wp2_with fail
      refine HF.out.mono ?_
      rintro e w6 ⟨fv, rfl, hof, hb6⟩
      obtain ⟨fa, fc, rfl⟩ := hof.shape
      have hq6 := hK0.out.later hb6
      have x0 := hq6.bx.cell (i := 0) (v := .string kd) rfl
      have x1 := hq6.bx.cell (i := 1) (v := .string da) rfl
      have x2 := hq6.bx.cell (i := 2) (v := .bool ex) rfl
      have x3 := hq6.bx.cell (i := 3) (v := .slice xa ks.length xc) rfl
      simp only [List.length_nil]
      clear hof hb6 HF hK5 hK0 hb5
      go_wp2_with fail
      refine (HK.out _ hq6.ox hq6.env).mono ?_
      rintro e w7 ⟨rfl, hb7⟩
      have hB7 := (hq6.later hb7).below
      clear x0 x1 x2 x3 hq6 hb7 HK
      go_wp2_with fail
      go_ret
      exact ⟨rfl, hB7⟩
  · go_wp2_with fail
    go_ret
    exact ⟨rfl, hB3⟩
end Go.Proofs.YthnlaigabefidaaGreatDoor
