/- Changes of a tree, one by one: in plain words; the contract of diff.change. Condition: the tree and the change are there, the variables read as listed, the path is no longer than memory reaches. · Changes of a tree, one behind the other: in plain words; the contract of diff.Apply. Condition: the tree and the changes are there, the variables read as listed, the paths are no longer than memory reaches. -/
import Derived.Test.YtoaedkinlnkkhaaDoorDfN
import Derived.Test.YtoaedkinlnkkhaaDoorPwQD
namespace Go.Proofs.YtoaedkinlnkkhaaDoor
open Go.RowKit Go.Shelf
open Classical in
/-- A change of a tree. -/
noncomputable def changeOf (t : Nd) (c : Ch Unit) : Except Nat Nd :=
  if c.kind = kAdd then (match getOf t c.path with | .ok _ => .error 7 | .error _ => putOf t c.path c.n)
  else if c.kind = kEdit then (match getOf t c.path with | .ok _ => putOf t c.path c.n | .error e => .error e)
  else if c.kind = kDrop then (if c.n = NdZ then dropOf t c.path else .error 3)
  else .error 4
theorem kAdd_list : kAdd.toList = [97, 100, 100] := by rw [Lib.toList_data]; rfl
theorem kEdit_list : kEdit.toList = [101, 100, 105, 116] := by rw [Lib.toList_data]; rfl
theorem kDrop_list : kDrop.toList = [100, 114, 111, 112] := by rw [Lib.toList_data]; rfl
theorem kEdit_ne : kEdit ≠ kAdd := fun e => by cases e
theorem kDrop_ne : kDrop ≠ kAdd := fun e => by cases e
theorem kDrop_ne2 : kDrop ≠ kEdit := fun e => by cases e
section
variable {t x : Nd} {c : Ch Unit} {e : Nat}
theorem change_exist (h : c.kind = kAdd) (hg : getOf t c.path = .ok x) : changeOf t c = .error 7 := by unfold changeOf; rw [if_pos h, hg]
theorem change_add (h : c.kind = kAdd) (hg : getOf t c.path = .error e) : changeOf t c = putOf t c.path c.n := by unfold changeOf; rw [if_pos h, hg]
theorem change_none (h : c.kind = kEdit) (hg : getOf t c.path = .error e) : changeOf t c = .error e := by unfold changeOf; rw [if_neg (by rw [h]; exact kEdit_ne), if_pos h, hg]
theorem change_edit (h : c.kind = kEdit) (hg : getOf t c.path = .ok x) : changeOf t c = putOf t c.path c.n := by unfold changeOf; rw [if_neg (by rw [h]; exact kEdit_ne), if_pos h, hg]
theorem change_drop (h : c.kind = kDrop) (hg : c.n = NdZ) : changeOf t c = dropOf t c.path := by unfold changeOf; rw [if_neg (by rw [h]; exact kDrop_ne), if_neg (by rw [h]; exact kDrop_ne2), if_pos h, if_pos hg]
theorem change_shape (h : c.kind = kDrop) (hg : c.n ≠ NdZ) : changeOf t c = .error 3 := by unfold changeOf; rw [if_neg (by rw [h]; exact kDrop_ne), if_neg (by rw [h]; exact kDrop_ne2), if_pos h, if_neg hg]
theorem change_kind (h1 : c.kind ≠ kAdd) (h2 : c.kind ≠ kEdit) (h3 : c.kind ≠ kDrop) : changeOf t c = .error 4 := by unfold changeOf; rw [if_neg h1, if_neg h2, if_neg h3]
end
/-- A tree and an error's number of a change; the tree counts where there is no error. -/
def RW (R : Except Nat Nd) (Y : Nd) (c : Nat) : Prop := (R = .error c ∧ c ≠ 0) ∨ (R = .ok Y ∧ c = 0)
/-- What a change gives. -/
def CgP (ev : Nat → Value) (R : Except Nat Nd) (P : Lt → Prop) (w : World) (e : Ending) (w' : World) : Prop :=
  ∃ (ky dy : ByteArray) (ey : Bool) (ya : Option Addr) (yc : Nat) (ksy : List (ByteArray × Lt)) (c : Nat), e = .returned (.tuple #[.agg #[.string ky, .string dy, .bool ey, .slice ya ksy.length yc], ev c]) ∧ Below w.heap.size w w' ∧ c ≤ 10 ∧
    Hid ((Tr.mk ky dy ey (.slice ya ksy.length yc) ksy : Lt).Ok w') ∧ Hid (c = 0 → P (Tr.mk ky dy ey (.slice ya ksy.length yc) ksy)) ∧ Hid (RW R (Tr.mk ky dy ey (.slice ya ksy.length yc) ksy : Lt).bare c)
theorem RV.rw {R : Except Nat Nd} {Y : Nd} {c : Nat} (h : RV R Y c) : RW R Y c := by
  rcases h with ⟨h1, h2, -⟩ | ⟨h1, h2⟩
  · exact .inl ⟨h1, h2⟩
  · exact .inr ⟨h1, h2⟩

/-- What stands while a change goes on. -/
structure ChK (w : World) (t : Lt) (c : Ch Value) (W : World) : Prop where
  bt : Blk W w.heap.size (ncells t) 24
  bc : Blk W (w.heap.size + 1) (chcell c) 38
  bz : Blk W (w.heap.size + 2) [.string ⟨#[]⟩, .string ⟨#[]⟩, .bool false, .slice none 0 0] 24
  ot : t.Ok W
  oc : c.n.Ok W
  below : Below w.heap.size w W
section
variable {w : World} {t : Lt} {c : Ch Value} {W W' : World}
theorem ChK.later (h : ChK w t c W) (hb : Below W.heap.size W W') : ChK w t c W' :=
  ⟨h.bt.below hb h.bt.lt, h.bc.below hb h.bc.lt, h.bz.below hb h.bz.lt, h.ot.ob hb, h.oc.ob hb, h.below.trans (hb.mono h.below.size)⟩
theorem ChK.alloc (h : ChK w t c W) (o : Obj) : ChK w t c (W.alloc o) := h.later ((Below.refl _ _).alloc (Nat.le_refl _) o)
theorem ChK.done (h : ChK w t c W) (c0 c1 c2 c3 : Value) : Below w.heap.size w ((((W.setCell ⟨w.heap.size + 2, 0, none⟩ c0).setCell ⟨w.heap.size + 2, 1, none⟩ c1).setCell ⟨w.heap.size + 2, 2, none⟩ c2).setCell ⟨w.heap.size + 2, 3, none⟩ c3) ∧
    Blk ((((W.setCell ⟨w.heap.size + 2, 0, none⟩ c0).setCell ⟨w.heap.size + 2, 1, none⟩ c1).setCell ⟨w.heap.size + 2, 2, none⟩ c2).setCell ⟨w.heap.size + 2, 3, none⟩ c3) (w.heap.size + 2) [c0, c1, c2, c3] 24 ∧ Fr (fun b => b = w.heap.size + 2) W ((((W.setCell ⟨w.heap.size + 2, 0, none⟩ c0).setCell ⟨w.heap.size + 2, 1, none⟩ c1).setCell ⟨w.heap.size + 2, 2, none⟩ c2).setCell ⟨w.heap.size + 2, 3, none⟩ c3) := by
  have hF := (Fr.refl (fun b => b = w.heap.size + 2) W).four (p := w.heap.size + 2) (.inl rfl) c0 c1 c2 c3
  exact ⟨h.below.trans (hF.below h.below.size (fun b e => by omega)), h.bz.four, hF⟩
end
theorem ch_below (w : World) (a b c : Array Value) (T1 T2 T3 : TypeId) : Below w.heap.size w (((w.alloc (.cells a T1)).alloc (.cells b T2)).alloc (.cells c T3)) := (((Below.refl _ _).alloc (Nat.le_refl _) _).alloc (by simp) _).alloc (by simp; omega) _
def cval (c : Ch Value) : Value := .agg #[.string c.kind, .string c.path, .string c.n.kind, .string c.n.data, .bool c.n.exec, c.n.v]
theorem ChK.start (w : World) (kt dt : ByteArray) (et : Bool) (ta : Option Addr) (tc : Nat) (kst : List (ByteArray × Lt)) (kc pc kn dn : ByteArray) (en : Bool) (na : Option Addr) (nc : Nat) (ksn : List (ByteArray × Lt))
    (ht : (Tr.mk kt dt et (.slice ta kst.length tc) kst : Lt).Ok w) (hc : (Tr.mk kn dn en (.slice na ksn.length nc) ksn : Lt).Ok w) :
    ChK w (.mk kt dt et (.slice ta kst.length tc) kst) ⟨kc, pc, .mk kn dn en (.slice na ksn.length nc) ksn⟩ (((w.alloc (.cells #[.string kt, .string dt, .bool et, .slice ta kst.length tc] 24)).alloc (.cells #[.string kc, .string pc, .string kn, .string dn, .bool en, .slice na ksn.length nc] 38)).alloc (.cells #[.string ⟨#[]⟩, .string ⟨#[]⟩, .bool false, .slice none 0 0] 24)) := by
  have hB := ch_below w #[.string kt, .string dt, .bool et, .slice ta kst.length tc] #[.string kc, .string pc, .string kn, .string dn, .bool en, .slice na ksn.length nc] #[.string ⟨#[]⟩, .string ⟨#[]⟩, .bool false, .slice none 0 0] 24 38 24
  refine ⟨?_, ?_, ?_, ht.ob hB, hc.ob hB, hB⟩
  · exact ((Blk.new w _ _).alloc _).alloc _
  · have h2 := (Blk.new (w.alloc (.cells #[.string kt, .string dt, .bool et, .slice ta kst.length tc] 24)) [.string kc, .string pc, .string kn, .string dn, .bool en, .slice na ksn.length nc] 38).alloc (.cells #[.string ⟨#[]⟩, .string ⟨#[]⟩, .bool false, .slice none 0 0] 24)
    rw [show (w.alloc (.cells #[.string kt, .string dt, .bool et, .slice ta kst.length tc] 24)).heap.size = w.heap.size + 1 by simp] at h2
    exact h2
  · have h3 := Blk.new ((w.alloc (.cells #[.string kt, .string dt, .bool et, .slice ta kst.length tc] 24)).alloc (.cells #[.string kc, .string pc, .string kn, .string dn, .bool en, .slice na ksn.length nc] 38)) [.string ⟨#[]⟩, .string ⟨#[]⟩, .bool false, .slice none 0 0] 24
    rw [show ((w.alloc (.cells #[.string kt, .string dt, .bool et, .slice ta kst.length tc] 24)).alloc (.cells #[.string kc, .string pc, .string kn, .string dn, .bool en, .slice na ksn.length nc] 38)).heap.size = w.heap.size + 2 by simp] at h3
    exact h3

set_option maxRecDepth 100000 in
set_option maxHeartbeats 40000000 in
theorem change_any (E : Nat → Addr) (B : Nat) (t : Lt) (c : Ch Value) (w : World) (ht : t.Ok w) (hc : c.n.Ok w) (hE : Env codeGs B w E) (hM : Ml w) (hs : c.path.size < 4294967281) :
    Calls Tryd.prog 21 #[nval t, cval c] w (CgP (evc E) (changeOf t.bare c.bare) (fun y => y.In (fun b => w.heap.size ≤ b)) w) := by
  obtain ⟨ta, tc, htv⟩ := ht.shape
  obtain ⟨na, nc, hnv⟩ := hc.shape
  obtain ⟨kt, dt, et, vt, kst⟩ := t
  obtain ⟨kc, pc, ⟨kn, dn, en, vn, ksn⟩⟩ := c
  simp only [Tr.v, Tr.kids] at htv hnv hs
  subst htv hnv
  have hK := ChK.start w kt dt et ta tc kst kc pc kn dn en na nc ksn ht hc
  have HTI := hidd (ok_in _ ht)
  have HEN := hidd (fun W (h : ChK w (.mk kt dt et (.slice ta kst.length tc) kst) ⟨kc, pc, .mk kn dn en (.slice na ksn.length nc) ksn⟩ W) => hE.ob h.below)
  have HBS := hidd hE.size
  have HG := hidd (fun W (h : ChK w (.mk kt dt et (.slice ta kst.length tc) kst) ⟨kc, pc, .mk kn dn en (.slice na ksn.length nc) ksn⟩ W) => get_any E B _ pc W h.ot (hE.ob h.below).tr (hM.ob h.below) hs)
  have HP := hidd (fun W (h : ChK w (.mk kt dt et (.slice ta kst.length tc) kst) ⟨kc, pc, .mk kn dn en (.slice na ksn.length nc) ksn⟩ W) => put_any E B _ _ pc W h.ot h.oc (hE.ob h.below).tr (hM.ob h.below) hs)
  have HD := hidd (fun W (h : ChK w (.mk kt dt et (.slice ta kst.length tc) kst) ⟨kc, pc, .mk kn dn en (.slice na ksn.length nc) ksn⟩ W) => drop_any E B _ pc W h.ot (hE.ob h.below).tr (hM.ob h.below) hs)
  have HS := hidd (fun W r (h : ChK w (.mk kt dt et (.slice ta kst.length tc) kst) ⟨kc, pc, .mk kn dn en (.slice na ksn.length nc) ksn⟩ W) hr => same_any _ zLt W r h.oc (zLt_ok W) hr)
  unfold cval nval at *
  unfold zLt at HS
  simp only [Tr.kind, Tr.data, Tr.exec, Tr.v] at HG HP HD HS ⊢
  have HK := hidd hK
  clear ht hc hE hM hs hK
  by_cases ka : kc = kAdd
  · have e1 : (kc.toList == [97, 100, 100]) = true := by rw [ka, kAdd_list]; rfl
    have HKA := hidd ka
    clear ka HD HS
    have hK := HK.out
    have x0 := hK.bt.cell (i := 0) rfl
    have x1 := hK.bt.cell (i := 1) rfl
    have x2 := hK.bt.cell (i := 2) rfl
    have x3 := hK.bt.cell (i := 3) rfl
    have z0 := hK.bc.cell (i := 0) rfl
    have z1 := hK.bc.cell (i := 1) rfl
    have z2 := hK.bc.cell (i := 2) rfl
    have z3 := hK.bc.cell (i := 3) rfl
    have z4 := hK.bc.cell (i := 4) rfl
    have z5 := hK.bc.cell (i := 5) rfl
    simp only [Tr.kind, Tr.data, Tr.exec, Tr.v] at x0 x1 x2 x3 z0 z1 z2 z3 z4 z5
    clear hK
    go_enter Tryd.func21, Tryd.ntmps21
    go_wp2_with fail
    refine (HG.out _ HK.out).mono ?_
    intro e w3 hyy
    obtain ⟨ky, dy, ey, ya, yc, ksy, cg, he, hb3, hc10, -, -, hrv⟩ := hyy.two
    subst he
    have hrv := hrv.out.rw
    unfold RW at hrv
    have HK3 := hidd (HK.out.later hb3)
    clear hyy hb3 HG HK
    clear x0 x1 x2 x3 z0 z1 z2 z3 z4 z5
    rcases hrv with ⟨hg, hc0⟩ | ⟨hg, rfl⟩
    · have HR := hidd (change_add (c := ⟨kc, pc, (Tr.mk kn dn en (.slice na ksn.length nc) ksn : Lt).bare⟩) HKA.out hg)
      obtain ⟨ad, had⟩ := evc_some (E := E) hc0
      rw [had]
      clear hg had
      have hK := HK3.out.alloc (.cells #[.string ky, .string dy, .bool ey, .slice ya ksy.length yc] 24)
      have x0 := hK.bt.cell (i := 0) rfl
      have x1 := hK.bt.cell (i := 1) rfl
      have x2 := hK.bt.cell (i := 2) rfl
      have x3 := hK.bt.cell (i := 3) rfl
      have z0 := hK.bc.cell (i := 0) rfl
      have z1 := hK.bc.cell (i := 1) rfl
      have z2 := hK.bc.cell (i := 2) rfl
      have z3 := hK.bc.cell (i := 3) rfl
      have z4 := hK.bc.cell (i := 4) rfl
      have z5 := hK.bc.cell (i := 5) rfl
      simp only [Tr.kind, Tr.data, Tr.exec, Tr.v] at x0 x1 x2 x3 z0 z1 z2 z3 z4 z5
      have HK := hidd hK
      clear hK HK3
      go_wp2_with fail
      refine (HP.out _ HK.out).mono ?_
      intro e w5 hyy
      obtain ⟨kp, dp, ep, pa, pc', ksp, cp, he, hb5, hc10p, hop, hip, hrp⟩ := hyy.two
      subst he
      have hK := HK.out.later hb5
      obtain ⟨er, her⟩ : ∃ er, evc E cp = er := ⟨_, rfl⟩
      have HER := hidd her
      rw [her]
      clear x0 x1 x2 x3 z0 z1 z2 z3 z4 z5
      have f0 := hK.bz.frozen 0
      have f1 := hK.bz.frozen 1
      have f2 := hK.bz.frozen 2
      have f3 := hK.bz.frozen 3
      have y0 := hK.bz.cell (i := 0) rfl
      have y1 := hK.bz.cell (i := 1) rfl
      have y2 := hK.bz.cell (i := 2) rfl
      have y3 := hK.bz.cell (i := 3) rfl
      obtain ⟨hBF, hBk, hFR⟩ := hK.done (.string kp) (.string dp) (.bool ep) (.slice pa ksp.length pc')
      have r0 := hBk.cell (i := 0) rfl
      have r1 := hBk.cell (i := 1) rfl
      have r2 := hBk.cell (i := 2) rfl
      have r3 := hBk.cell (i := 3) rfl
      have hlt4 := HK.out.bz.lt
      have HOP := hidd (ok_fr hFR _ hop.out (in_mono (fun b hb e => by omega) _ hip.out))
      have HIP : Hid (cp = 0 → (Tr.mk kp dp ep (.slice pa ksp.length pc') ksp : Lt).In (fun b => w.heap.size ≤ b)) := hidd (fun _ => in_mono (fun b hb => by omega) _ hip.out)
      have HRP := hidd hrp.out.rw
      rw [← HR.out] at HRP
      have HBF := hidd hBF
      clear hyy hb5 hop hip hrp her hBk hFR hK hlt4 hBF HK
      go_wp2_with fail
      refine bodyPost_ret (v := .tuple #[.agg #[.string kp, .string dp, .bool ep, .slice pa ksp.length pc'], er]) ?_ rfl ?_
      · rw [results_cell_tmp rfl]
        go_simp
      · exact ⟨kp, dp, ep, pa, pc', ksp, cp, by rw [HER.out], HBF.out, hc10p, HOP.out, HIP.out, HRP.out⟩
    · have HR := hidd (change_exist (c := ⟨kc, pc, (Tr.mk kn dn en (.slice na ksn.length nc) ksn : Lt).bare⟩) HKA.out hg)
      rw [evc_zero]
      clear hg
      have hK := HK3.out.alloc (.cells #[.string ky, .string dy, .bool ey, .slice ya ksy.length yc] 24)
      have x0 := hK.bt.cell (i := 0) rfl
      have x1 := hK.bt.cell (i := 1) rfl
      have x2 := hK.bt.cell (i := 2) rfl
      have x3 := hK.bt.cell (i := 3) rfl
      have z0 := hK.bc.cell (i := 0) rfl
      have z1 := hK.bc.cell (i := 1) rfl
      have z2 := hK.bc.cell (i := 2) rfl
      have z3 := hK.bc.cell (i := 3) rfl
      have z4 := hK.bc.cell (i := 4) rfl
      have z5 := hK.bc.cell (i := 5) rfl
      simp only [Tr.kind, Tr.data, Tr.exec, Tr.v] at x0 x1 x2 x3 z0 z1 z2 z3 z4 z5
      have HK := hidd hK
      clear hK HK3
      go_upto_region 5 with fail
      have HEQ := hidd (HEN.out _ HK.out)
      have hK := HK.out
      have HV : Hid (evc E 7 = .iface 178 (.pointer (some (E 3)))) := hidd rfl
      have hcE := HEQ.out.cell 3 (by decide)
      unfold erv at hcE
      have hg6 : 3 < B := HEQ.out.glt 3 (by decide)
      have hBs : B ≤ w.heap.size := HBS.out
      have hne : ¬ (3 = w.heap.size + 2) := by omega
      have hne2 : ¬ (w.heap.size + 2 = 3) := by omega
      have f0 := hK.bz.frozen 0
      have f1 := hK.bz.frozen 1
      have f2 := hK.bz.frozen 2
      have f3 := hK.bz.frozen 3
      have y0 := hK.bz.cell (i := 0) rfl
      have y1 := hK.bz.cell (i := 1) rfl
      have y2 := hK.bz.cell (i := 2) rfl
      have y3 := hK.bz.cell (i := 3) rfl
      obtain ⟨hBF, hBk, hFR⟩ := hK.done (.string kt) (.string dt) (.bool et) (.slice ta kst.length tc)
      have r0 := hBk.cell (i := 0) rfl
      have r1 := hBk.cell (i := 1) rfl
      have r2 := hBk.cell (i := 2) rfl
      have r3 := hBk.cell (i := 3) rfl
      have HOP := hidd (ok_fr hFR _ hK.ot (in_mono (fun b hb e => by omega) _ HTI.out))
      have HBF := hidd hBF
      clear hBk hFR hK hBF HK HEQ hg6 hBs z0 z1 z2 z3 z4 z5
      generalize w3.alloc (.cells #[.string ky, .string dy, .bool ey, .slice ya ksy.length yc] 24) = w4 at *
      go_region
      all_goals
        go_wp2_with fail
        refine bodyPost_ret (v := .tuple #[.agg #[.string kt, .string dt, .bool et, .slice ta kst.length tc], evc E 7]) ?_ rfl ?_
        · rw [results_cell_tmp rfl]
          rw [HV.out]
          go_simp
        · exact ⟨kt, dt, et, ta, tc, kst, 7, rfl, HBF.out.drew, by decide, hidd (HOP.out.ob (Below.refl _ _).drew), hidd (fun e => (by cases e)), .inl ⟨HR.out, by decide⟩⟩
  · have e1 : (kc.toList == [97, 100, 100]) = false := by rw [← kAdd_list]; exact beq_str ka
    by_cases ke : kc = kEdit
    · have e2 : (kc.toList == [101, 100, 105, 116]) = true := by rw [ke, kEdit_list]; rfl
      have HKE := hidd ke
      clear ka ke HD HS
      have hK := HK.out
      have x0 := hK.bt.cell (i := 0) rfl
      have x1 := hK.bt.cell (i := 1) rfl
      have x2 := hK.bt.cell (i := 2) rfl
      have x3 := hK.bt.cell (i := 3) rfl
      have z0 := hK.bc.cell (i := 0) rfl
      have z1 := hK.bc.cell (i := 1) rfl
      have z2 := hK.bc.cell (i := 2) rfl
      have z3 := hK.bc.cell (i := 3) rfl
      have z4 := hK.bc.cell (i := 4) rfl
      have z5 := hK.bc.cell (i := 5) rfl
      simp only [Tr.kind, Tr.data, Tr.exec, Tr.v] at x0 x1 x2 x3 z0 z1 z2 z3 z4 z5
      clear hK
      go_enter Tryd.func21, Tryd.ntmps21
      go_wp2_with fail
      refine (HG.out _ HK.out).mono ?_
      intro e w3 hyy
      obtain ⟨ky, dy, ey, ya, yc, ksy, cg, he, hb3, hc10, -, -, hrv⟩ := hyy.two
      subst he
      have hrv := hrv.out.rw
      unfold RW at hrv
      have HK3 := hidd (HK.out.later hb3)
      clear hyy hb3 HG HK
      clear x0 x1 x2 x3 z0 z1 z2 z3 z4 z5
      rcases hrv with ⟨hg, hc0⟩ | ⟨hg, rfl⟩
      · have HR := hidd (change_none (c := ⟨kc, pc, (Tr.mk kn dn en (.slice na ksn.length nc) ksn : Lt).bare⟩) HKE.out hg)
        have HC0 := hidd hc0
        obtain ⟨ad, had⟩ := evc_some (E := E) hc0
        have HAD := hidd had
        rw [had]
        clear hg had hc0
        have hK := HK3.out.alloc (.cells #[.string ky, .string dy, .bool ey, .slice ya ksy.length yc] 24)
        have x0 := hK.bt.cell (i := 0) rfl
        have x1 := hK.bt.cell (i := 1) rfl
        have x2 := hK.bt.cell (i := 2) rfl
        have x3 := hK.bt.cell (i := 3) rfl
        have z0 := hK.bc.cell (i := 0) rfl
        have z1 := hK.bc.cell (i := 1) rfl
        have z2 := hK.bc.cell (i := 2) rfl
        have z3 := hK.bc.cell (i := 3) rfl
        have z4 := hK.bc.cell (i := 4) rfl
        have z5 := hK.bc.cell (i := 5) rfl
        simp only [Tr.kind, Tr.data, Tr.exec, Tr.v] at x0 x1 x2 x3 z0 z1 z2 z3 z4 z5
        have HK := hidd hK
        clear hK HK3
        have hK := HK.out
        have f0 := hK.bz.frozen 0
        have f1 := hK.bz.frozen 1
        have f2 := hK.bz.frozen 2
        have f3 := hK.bz.frozen 3
        have y0 := hK.bz.cell (i := 0) rfl
        have y1 := hK.bz.cell (i := 1) rfl
        have y2 := hK.bz.cell (i := 2) rfl
        have y3 := hK.bz.cell (i := 3) rfl
        obtain ⟨hBF, hBk, hFR⟩ := hK.done (.string kt) (.string dt) (.bool et) (.slice ta kst.length tc)
        have r0 := hBk.cell (i := 0) rfl
        have r1 := hBk.cell (i := 1) rfl
        have r2 := hBk.cell (i := 2) rfl
        have r3 := hBk.cell (i := 3) rfl
        have HOP := hidd (ok_fr hFR _ hK.ot (in_mono (fun b hb e => by omega) _ HTI.out))
        have HBF := hidd hBF
        clear hBk hFR hK hBF HK
        go_wp2_with fail
        refine bodyPost_ret (v := .tuple #[.agg #[.string kt, .string dt, .bool et, .slice ta kst.length tc], evc E cg]) ?_ rfl ?_
        · rw [results_cell_tmp rfl]
          rw [HAD.out]
          go_simp
        · exact ⟨kt, dt, et, ta, tc, kst, cg, rfl, HBF.out, hc10, HOP.out, hidd (fun e => absurd e HC0.out), .inl ⟨HR.out, HC0.out⟩⟩
      · have HR := hidd (change_edit (c := ⟨kc, pc, (Tr.mk kn dn en (.slice na ksn.length nc) ksn : Lt).bare⟩) HKE.out hg)
        rw [evc_zero]
        clear hg
        have hK := HK3.out.alloc (.cells #[.string ky, .string dy, .bool ey, .slice ya ksy.length yc] 24)
        have x0 := hK.bt.cell (i := 0) rfl
        have x1 := hK.bt.cell (i := 1) rfl
        have x2 := hK.bt.cell (i := 2) rfl
        have x3 := hK.bt.cell (i := 3) rfl
        have z0 := hK.bc.cell (i := 0) rfl
        have z1 := hK.bc.cell (i := 1) rfl
        have z2 := hK.bc.cell (i := 2) rfl
        have z3 := hK.bc.cell (i := 3) rfl
        have z4 := hK.bc.cell (i := 4) rfl
        have z5 := hK.bc.cell (i := 5) rfl
        simp only [Tr.kind, Tr.data, Tr.exec, Tr.v] at x0 x1 x2 x3 z0 z1 z2 z3 z4 z5
        have HK := hidd hK
        clear hK HK3
        go_wp2_with fail
        refine (HP.out _ HK.out).mono ?_
        intro e w5 hyy
        obtain ⟨kp, dp, ep, pa, pc', ksp, cp, he, hb5, hc10p, hop, hip, hrp⟩ := hyy.two
        subst he
        have hK := HK.out.later hb5
        obtain ⟨er, her⟩ : ∃ er, evc E cp = er := ⟨_, rfl⟩
        have HER := hidd her
        rw [her]
        clear x0 x1 x2 x3 z0 z1 z2 z3 z4 z5
        have f0 := hK.bz.frozen 0
        have f1 := hK.bz.frozen 1
        have f2 := hK.bz.frozen 2
        have f3 := hK.bz.frozen 3
        have y0 := hK.bz.cell (i := 0) rfl
        have y1 := hK.bz.cell (i := 1) rfl
        have y2 := hK.bz.cell (i := 2) rfl
        have y3 := hK.bz.cell (i := 3) rfl
        obtain ⟨hBF, hBk, hFR⟩ := hK.done (.string kp) (.string dp) (.bool ep) (.slice pa ksp.length pc')
        have r0 := hBk.cell (i := 0) rfl
        have r1 := hBk.cell (i := 1) rfl
        have r2 := hBk.cell (i := 2) rfl
        have r3 := hBk.cell (i := 3) rfl
        have hlt4 := HK.out.bz.lt
        have HOP := hidd (ok_fr hFR _ hop.out (in_mono (fun b hb e => by omega) _ hip.out))
        have HIP : Hid (cp = 0 → (Tr.mk kp dp ep (.slice pa ksp.length pc') ksp : Lt).In (fun b => w.heap.size ≤ b)) := hidd (fun _ => in_mono (fun b hb => by omega) _ hip.out)
        have HRP := hidd hrp.out.rw
        rw [← HR.out] at HRP
        have HBF := hidd hBF
        clear hyy hb5 hop hip hrp her hBk hFR hK hlt4 hBF HK
        go_wp2_with fail
        refine bodyPost_ret (v := .tuple #[.agg #[.string kp, .string dp, .bool ep, .slice pa ksp.length pc'], er]) ?_ rfl ?_
        · rw [results_cell_tmp rfl]
          go_simp
        · exact ⟨kp, dp, ep, pa, pc', ksp, cp, by rw [HER.out], HBF.out, hc10p, HOP.out, HIP.out, HRP.out⟩
    · have e2 : (kc.toList == [101, 100, 105, 116]) = false := by rw [← kEdit_list]; exact beq_str ke
      by_cases kd : kc = kDrop
      · have e3 : (kc.toList == [100, 114, 111, 112]) = true := by rw [kd, kDrop_list]; rfl
        by_cases hz : (Tr.mk kn dn en (.slice na ksn.length nc) ksn : Lt).bare = NdZ
        · have HR := hidd (change_drop (t := (Tr.mk kt dt et (.slice ta kst.length tc) kst : Lt).bare) (c := ⟨kc, pc, (Tr.mk kn dn en (.slice na ksn.length nc) ksn : Lt).bare⟩) kd hz)
          have HSM := hidd (fun W h => HS.out W true h ⟨fun _ => hz.trans zLt_bare.symm, fun _ => rfl⟩)
          clear ka ke kd hz HG HP HS
          have hK := HK.out
          have x0 := hK.bt.cell (i := 0) rfl
          have x1 := hK.bt.cell (i := 1) rfl
          have x2 := hK.bt.cell (i := 2) rfl
          have x3 := hK.bt.cell (i := 3) rfl
          have z0 := hK.bc.cell (i := 0) rfl
          have z1 := hK.bc.cell (i := 1) rfl
          have z2 := hK.bc.cell (i := 2) rfl
          have z3 := hK.bc.cell (i := 3) rfl
          have z4 := hK.bc.cell (i := 4) rfl
          have z5 := hK.bc.cell (i := 5) rfl
          simp only [Tr.kind, Tr.data, Tr.exec, Tr.v] at x0 x1 x2 x3 z0 z1 z2 z3 z4 z5
          clear hK
          go_enter Tryd.func21, Tryd.ntmps21
          go_wp2_with fail
          refine (HSM.out _ HK.out).mono ?_
          rintro e w3 ⟨rfl, hb3⟩
          have hK := HK.out.later hb3
          clear x0 x1 x2 x3 z0 z1 z2 z3 z4 z5
          have x0 := hK.bt.cell (i := 0) rfl
          have x1 := hK.bt.cell (i := 1) rfl
          have x2 := hK.bt.cell (i := 2) rfl
          have x3 := hK.bt.cell (i := 3) rfl
          have z0 := hK.bc.cell (i := 0) rfl
          have z1 := hK.bc.cell (i := 1) rfl
          have z2 := hK.bc.cell (i := 2) rfl
          have z3 := hK.bc.cell (i := 3) rfl
          have z4 := hK.bc.cell (i := 4) rfl
          have z5 := hK.bc.cell (i := 5) rfl
          simp only [Tr.kind, Tr.data, Tr.exec, Tr.v] at x0 x1 x2 x3 z0 z1 z2 z3 z4 z5
          clear hb3 HSM HK
          have HK := hidd hK
          clear hK
          go_wp2_with fail
          refine (HD.out _ HK.out).mono ?_
          intro e w5 hyy
          obtain ⟨kp, dp, ep, pa, pc', ksp, cp, he, hb5, hc10p, hop, hip, hrp⟩ := hyy.two
          subst he
          have hK := HK.out.later hb5
          obtain ⟨er, her⟩ : ∃ er, evc E cp = er := ⟨_, rfl⟩
          have HER := hidd her
          rw [her]
          clear x0 x1 x2 x3 z0 z1 z2 z3 z4 z5
          have f0 := hK.bz.frozen 0
          have f1 := hK.bz.frozen 1
          have f2 := hK.bz.frozen 2
          have f3 := hK.bz.frozen 3
          have y0 := hK.bz.cell (i := 0) rfl
          have y1 := hK.bz.cell (i := 1) rfl
          have y2 := hK.bz.cell (i := 2) rfl
          have y3 := hK.bz.cell (i := 3) rfl
          obtain ⟨hBF, hBk, hFR⟩ := hK.done (.string kp) (.string dp) (.bool ep) (.slice pa ksp.length pc')
          have r0 := hBk.cell (i := 0) rfl
          have r1 := hBk.cell (i := 1) rfl
          have r2 := hBk.cell (i := 2) rfl
          have r3 := hBk.cell (i := 3) rfl
          have hlt4 := HK.out.bz.lt
          have HOP := hidd (ok_fr hFR _ hop.out (in_mono (fun b hb e => by omega) _ hip.out))
          have HIP : Hid (cp = 0 → (Tr.mk kp dp ep (.slice pa ksp.length pc') ksp : Lt).In (fun b => w.heap.size ≤ b)) := hidd (fun _ => in_mono (fun b hb => by omega) _ hip.out)
          have HRP := hidd hrp.out.rw
          rw [← HR.out] at HRP
          have HBF := hidd hBF
          clear hyy hb5 hop hip hrp her hBk hFR hK hlt4 hBF HK
          go_wp2_with fail
          refine bodyPost_ret (v := .tuple #[.agg #[.string kp, .string dp, .bool ep, .slice pa ksp.length pc'], er]) ?_ rfl ?_
          · rw [results_cell_tmp rfl]
            go_simp
          · exact ⟨kp, dp, ep, pa, pc', ksp, cp, by rw [HER.out], HBF.out, hc10p, HOP.out, HIP.out, HRP.out⟩
        · have HR := hidd (change_shape (t := (Tr.mk kt dt et (.slice ta kst.length tc) kst : Lt).bare) (c := ⟨kc, pc, (Tr.mk kn dn en (.slice na ksn.length nc) ksn : Lt).bare⟩) kd hz)
          have HSM := hidd (fun W h => HS.out W false h ⟨fun h => (by cases h), fun h => absurd (h.trans zLt_bare) hz⟩)
          clear ka ke kd hz HG HP HS HD
          have hK := HK.out
          have x0 := hK.bt.cell (i := 0) rfl
          have x1 := hK.bt.cell (i := 1) rfl
          have x2 := hK.bt.cell (i := 2) rfl
          have x3 := hK.bt.cell (i := 3) rfl
          have z0 := hK.bc.cell (i := 0) rfl
          have z1 := hK.bc.cell (i := 1) rfl
          have z2 := hK.bc.cell (i := 2) rfl
          have z3 := hK.bc.cell (i := 3) rfl
          have z4 := hK.bc.cell (i := 4) rfl
          have z5 := hK.bc.cell (i := 5) rfl
          simp only [Tr.kind, Tr.data, Tr.exec, Tr.v] at x0 x1 x2 x3 z0 z1 z2 z3 z4 z5
          clear hK
          go_enter Tryd.func21, Tryd.ntmps21
          go_wp2_with fail
          refine (HSM.out _ HK.out).mono ?_
          rintro e w3 ⟨rfl, hb3⟩
          have hK := HK.out.later hb3
          clear x0 x1 x2 x3 z0 z1 z2 z3 z4 z5
          have x0 := hK.bt.cell (i := 0) rfl
          have x1 := hK.bt.cell (i := 1) rfl
          have x2 := hK.bt.cell (i := 2) rfl
          have x3 := hK.bt.cell (i := 3) rfl
          have z0 := hK.bc.cell (i := 0) rfl
          have z1 := hK.bc.cell (i := 1) rfl
          have z2 := hK.bc.cell (i := 2) rfl
          have z3 := hK.bc.cell (i := 3) rfl
          have z4 := hK.bc.cell (i := 4) rfl
          have z5 := hK.bc.cell (i := 5) rfl
          simp only [Tr.kind, Tr.data, Tr.exec, Tr.v] at x0 x1 x2 x3 z0 z1 z2 z3 z4 z5
          clear hb3 HSM HK
          have HK := hidd hK
          clear hK
          go_upto_region 14 with fail
          have HEQ := hidd (HEN.out _ HK.out)
          have hK := HK.out
          have HV : Hid (evc E 3 = .iface 178 (.pointer (some (E 4)))) := hidd rfl
          have hcE := HEQ.out.cell 4 (by decide)
          unfold erv at hcE
          have hg6 : 4 < B := HEQ.out.glt 4 (by decide)
          have hBs : B ≤ w.heap.size := HBS.out
          have hne : ¬ (4 = w.heap.size + 2) := by omega
          have hne2 : ¬ (w.heap.size + 2 = 4) := by omega
          have f0 := hK.bz.frozen 0
          have f1 := hK.bz.frozen 1
          have f2 := hK.bz.frozen 2
          have f3 := hK.bz.frozen 3
          have y0 := hK.bz.cell (i := 0) rfl
          have y1 := hK.bz.cell (i := 1) rfl
          have y2 := hK.bz.cell (i := 2) rfl
          have y3 := hK.bz.cell (i := 3) rfl
          obtain ⟨hBF, hBk, hFR⟩ := hK.done (.string kt) (.string dt) (.bool et) (.slice ta kst.length tc)
          have r0 := hBk.cell (i := 0) rfl
          have r1 := hBk.cell (i := 1) rfl
          have r2 := hBk.cell (i := 2) rfl
          have r3 := hBk.cell (i := 3) rfl
          have HOP := hidd (ok_fr hFR _ hK.ot (in_mono (fun b hb e => by omega) _ HTI.out))
          have HBF := hidd hBF
          clear hBk hFR hK hBF HK HEQ hg6 hBs z0 z1 z2 z3 z4 z5
          go_region
          all_goals
            go_wp2_with fail
            refine bodyPost_ret (v := .tuple #[.agg #[.string kt, .string dt, .bool et, .slice ta kst.length tc], evc E 3]) ?_ rfl ?_
            · rw [results_cell_tmp rfl]
              rw [HV.out]
              go_simp
            · exact ⟨kt, dt, et, ta, tc, kst, 3, rfl, HBF.out.drew, by decide, hidd (HOP.out.ob (Below.refl _ _).drew), hidd (fun e => (by cases e)), .inl ⟨HR.out, by decide⟩⟩
      · have e3 : (kc.toList == [100, 114, 111, 112]) = false := by rw [← kDrop_list]; exact beq_str kd
        have HR := hidd (change_kind (t := (Tr.mk kt dt et (.slice ta kst.length tc) kst : Lt).bare) (c := ⟨kc, pc, (Tr.mk kn dn en (.slice na ksn.length nc) ksn : Lt).bare⟩) ka ke kd)
        clear ka ke kd HG HP HS HD
        have hK := HK.out
        have x0 := hK.bt.cell (i := 0) rfl
        have x1 := hK.bt.cell (i := 1) rfl
        have x2 := hK.bt.cell (i := 2) rfl
        have x3 := hK.bt.cell (i := 3) rfl
        have z0 := hK.bc.cell (i := 0) rfl
        have z1 := hK.bc.cell (i := 1) rfl
        have z2 := hK.bc.cell (i := 2) rfl
        have z3 := hK.bc.cell (i := 3) rfl
        have z4 := hK.bc.cell (i := 4) rfl
        have z5 := hK.bc.cell (i := 5) rfl
        simp only [Tr.kind, Tr.data, Tr.exec, Tr.v] at x0 x1 x2 x3 z0 z1 z2 z3 z4 z5
        clear hK
        go_enter Tryd.func21, Tryd.ntmps21
        go_upto_region 16 with fail
        have HEQ := hidd (HEN.out _ HK.out)
        have hK := HK.out
        have HV : Hid (evc E 4 = .iface 178 (.pointer (some (E 5)))) := hidd rfl
        have hcE := HEQ.out.cell 5 (by decide)
        unfold erv at hcE
        have hg6 : 5 < B := HEQ.out.glt 5 (by decide)
        have hBs : B ≤ w.heap.size := HBS.out
        have hne : ¬ (5 = w.heap.size + 2) := by omega
        have hne2 : ¬ (w.heap.size + 2 = 5) := by omega
        have f0 := hK.bz.frozen 0
        have f1 := hK.bz.frozen 1
        have f2 := hK.bz.frozen 2
        have f3 := hK.bz.frozen 3
        have y0 := hK.bz.cell (i := 0) rfl
        have y1 := hK.bz.cell (i := 1) rfl
        have y2 := hK.bz.cell (i := 2) rfl
        have y3 := hK.bz.cell (i := 3) rfl
        obtain ⟨hBF, hBk, hFR⟩ := hK.done (.string kt) (.string dt) (.bool et) (.slice ta kst.length tc)
        have r0 := hBk.cell (i := 0) rfl
        have r1 := hBk.cell (i := 1) rfl
        have r2 := hBk.cell (i := 2) rfl
        have r3 := hBk.cell (i := 3) rfl
        have HOP := hidd (ok_fr hFR _ hK.ot (in_mono (fun b hb e => by omega) _ HTI.out))
        have HBF := hidd hBF
        clear hBk hFR hK hBF HK HEQ hg6 hBs z0 z1 z2 z3 z4 z5
        generalize (((w.alloc (.cells #[.string kt, .string dt, .bool et, .slice ta kst.length tc] 24)).alloc (.cells #[.string kc, .string pc, .string kn, .string dn, .bool en, .slice na ksn.length nc] 38)).alloc (.cells #[.string ⟨#[]⟩, .string ⟨#[]⟩, .bool false, .slice none 0 0] 24)) = w4 at *
        go_region
        all_goals
          go_wp2_with fail
          refine bodyPost_ret (v := .tuple #[.agg #[.string kt, .string dt, .bool et, .slice ta kst.length tc], evc E 4]) ?_ rfl ?_
          · rw [results_cell_tmp rfl]
            rw [HV.out]
            go_simp
          · exact ⟨kt, dt, et, ta, tc, kst, 4, rfl, HBF.out.drew, by decide, hidd (HOP.out.ob (Below.refl _ _).drew), hidd (fun e => (by cases e)), .inl ⟨HR.out, by decide⟩⟩
end Go.Proofs.YtoaedkinlnkkhaaDoor

namespace Go.Proofs.YtoaedkinlnkkhaaDoor
open Go.RowKit Go.Shelf
/-- Changes of a tree from number i on: the tree, or an error's number and place. -/
noncomputable def applyL : Nat → Nd → List (Ch Unit) → Except (Nat × Nat) Nd
  | _, t, [] => .ok t
  | i, t, c :: r => match changeOf t c with
    | .ok y => applyL (i + 1) y r
    | .error e => .error (e, i)
theorem applyL_ok {i : Nat} {t y : Nd} {c : Ch Unit} {r : List (Ch Unit)} (h : changeOf t c = .ok y) : applyL i t (c :: r) = applyL (i + 1) y r := by rw [applyL, h]
theorem applyL_err {i e : Nat} {t : Nd} {c : Ch Unit} {r : List (Ch Unit)} (h : changeOf t c = .error e) : applyL i t (c :: r) = .error (e, i) := by rw [applyL, h]
theorem applyL_nil {i : Nat} {t : Nd} : applyL i t [] = .ok t := by rw [applyL]

/-- What diff.Apply gives. -/
def AppP (E : Nat → Addr) (t : Nd) (l : List (Ch Unit)) (w : World) (e : Ending) (w' : World) : Prop :=
  Below w.heap.size w w' ∧ ((∃ c, c = treeE t ∧ c ≠ 0 ∧ c ≤ 10 ∧ e = .returned (.tuple #[nodeZ, evc E c])) ∨
    (treeE t = 0 ∧ ∃ c i f, applyL 0 t l = .error (c, i) ∧ c ≠ 0 ∧ c ≤ 10 ∧ e = .returned (.tuple #[nodeZ, .iface 58 (.pointer (some ⟨f, 0, none⟩))]) ∧ Blk w' f [.int .i64 (i : Int), evc E c] 60) ∨
    (treeE t = 0 ∧ ∃ y : Lt, applyL 0 t l = .ok y.bare ∧ e = .returned (.tuple #[nval y, .nilIface]) ∧ y.Ok w'))
/-- What stands at a round's head. -/
structure ApK (w : World) (pn : Nat) (R : Except (Nat × Nat) Nd) (ls : List (Ch Value)) (i : Nat) (y : Lt) (W : World) : Prop where
  bn : Blk W pn (ncells y) 24
  bz : Blk W (w.heap.size + 1) [.string ⟨#[]⟩, .string ⟨#[]⟩, .bool false, .slice none 0 0] 24
  oy : y.Ok W
  iy : y.In (fun b => b ≠ pn ∧ b ≠ w.heap.size + 1)
  r : applyL i y.bare ((ls.drop i).map Ch.bare) = R
  below : Below w.heap.size w W
  hp : w.heap.size + 2 ≤ pn
section
variable {w : World} {pn : Nat} {R : Except (Nat × Nat) Nd} {ls : List (Ch Value)} {i : Nat} {y : Lt} {W W' : World}
theorem ApK.later (h : ApK w pn R ls i y W) (hb : Below W.heap.size W W') : ApK w pn R ls i y W' := ⟨h.bn.below hb h.bn.lt, h.bz.below hb h.bz.lt, h.oy.ob hb, h.iy, h.r, h.below.trans (hb.mono h.below.size), h.hp⟩
theorem ApK.next (h : ApK w pn R ls i y W) (hi : i < ls.length) {z : Lt} (hz : z.Ok W) (hzi : z.In (fun b => b ≠ pn ∧ b ≠ w.heap.size + 1)) (hc : changeOf y.bare ls[i].bare = .ok z.bare) :
    ApK w pn R ls (i + 1) z ((((W.setCell ⟨pn, 0, none⟩ (.string z.kind)).setCell ⟨pn, 1, none⟩ (.string z.data)).setCell ⟨pn, 2, none⟩ (.bool z.exec)).setCell ⟨pn, 3, none⟩ z.v) := by
  have hF := (Fr.refl (fun b => b = pn) W).four (p := pn) (.inl rfl) (.string z.kind) (.string z.data) (.bool z.exec) z.v
  have hp := h.hp
  refine ⟨h.bn.four, h.bz.fr hF (by omega), ok_fr hF z hz (in_mono (fun b hb e => hb.1 e) z hzi), hzi, ?_, h.below.trans (hF.below h.below.size (fun b e => by omega)), hp⟩
  have := h.r
  rw [show ls.drop i = ls[i] :: ls.drop (i + 1) from (List.getElem_cons_drop hi).symm, List.map_cons, applyL_ok hc] at this
  exact this
/-- The result's block, written over. -/
theorem ApK.done (h : ApK w pn R ls i y W) (c0 c1 c2 c3 : Value) : Below w.heap.size w ((((W.setCell ⟨w.heap.size + 1, 0, none⟩ c0).setCell ⟨w.heap.size + 1, 1, none⟩ c1).setCell ⟨w.heap.size + 1, 2, none⟩ c2).setCell ⟨w.heap.size + 1, 3, none⟩ c3) ∧
    Blk ((((W.setCell ⟨w.heap.size + 1, 0, none⟩ c0).setCell ⟨w.heap.size + 1, 1, none⟩ c1).setCell ⟨w.heap.size + 1, 2, none⟩ c2).setCell ⟨w.heap.size + 1, 3, none⟩ c3) (w.heap.size + 1) [c0, c1, c2, c3] 24 ∧ Fr (fun b => b = w.heap.size + 1) W ((((W.setCell ⟨w.heap.size + 1, 0, none⟩ c0).setCell ⟨w.heap.size + 1, 1, none⟩ c1).setCell ⟨w.heap.size + 1, 2, none⟩ c2).setCell ⟨w.heap.size + 1, 3, none⟩ c3) := by
  have hF := (Fr.refl (fun b => b = w.heap.size + 1) W).four (p := w.heap.size + 1) (.inl rfl) c0 c1 c2 c3
  exact ⟨h.below.trans (hF.below h.below.size (fun b e => by omega)), h.bz.four, hF⟩
end

set_option maxRecDepth 100000 in
set_option maxHeartbeats 40000000 in
theorem apply_any (E : Nat → Addr) (B : Nat) (t : Lt) (v : Value) (ls : List (Ch Value)) (w : World) (ht : t.Ok w) (hl : ChI ls v w) (hE : Env codeGs B w E) (hM : Ml w) (hs : ∀ c ∈ ls, c.path.size < 4294967281) :
    Calls Tryd.prog 10 #[nval t, v] w (AppP E t.bare (ls.map Ch.bare) w) := by
  obtain ⟨ta, tc, htv⟩ := ht.shape
  obtain ⟨la, lc, rfl, -⟩ := id hl.sl
  have hll := hl.sl.le
  obtain ⟨kt, dt, et, vt, kst⟩ := t
  simp only [Tr.v, Tr.kids] at htv
  subst htv
  have hB2 := two_below w #[.string kt, .string dt, .bool et, .slice ta kst.length tc] #[.string ⟨#[]⟩, .string ⟨#[]⟩, .bool false, .slice none 0 0] 24
  have hq1 := (Blk.new w [.string kt, .string dt, .bool et, .slice ta kst.length tc] 24).alloc (.cells #[.string ⟨#[]⟩, .string ⟨#[]⟩, .bool false, .slice none 0 0] 24)
  have hq2 := Blk.new (w.alloc (.cells #[.string kt, .string dt, .bool et, .slice ta kst.length tc] 24)) [.string ⟨#[]⟩, .string ⟨#[]⟩, .bool false, .slice none 0 0] 24
  rw [show (w.alloc (.cells #[.string kt, .string dt, .bool et, .slice ta kst.length tc] 24)).heap.size = w.heap.size + 1 by simp] at hq2
  have HTB : Hid (treeE (Tr.mk kt dt et (.slice ta kst.length tc) kst : Lt).bare = treeE (Tr.mk kt dt et (.slice ta kst.length tc) kst : Lt)) := hidd (treeE_map _ _)
  have hCK := check_tr E B _ _ (ht.ob hB2) (hE.tr.ob hB2)
  have HLS := hidd (fun W (h : Below w.heap.size w W) => hl.ob h)
  have HEN := hidd (fun W (h : Below w.heap.size w W) => hE.ob h)
  have HML := hidd (fun W (h : Below w.heap.size w W) => hM.ob h)
  have HPS := hidd hs
  have HTO := hidd (fun W (h : Below w.heap.size w W) => ht.ob h)
  have HB2 := hidd hB2
  have hz2 := hB2.size
  unfold nval at hCK ⊢
  simp only [Tr.kind, Tr.data, Tr.exec, Tr.v] at hCK ⊢
  by_cases h0 : treeE (Tr.mk kt dt et (.slice ta kst.length tc) kst : Lt) = 0
  · have hsz := right_sz h0
    have HCP := hidd (fun W (h : Below w.heap.size w W) => copy_any 300 (.mk kt dt et (.slice ta kst.length tc) kst) W (by omega) (Nat.le_refl _) (HTO.out W h))
    unfold nval at HCP
    simp only [Tr.kind, Tr.data, Tr.exec, Tr.v] at HCP
    rw [h0, evc_zero] at hCK
    have HCK := hidd hCK
    have HE0 := hidd (HTB.out.trans h0)
    clear ht hl hE hM hs hB2 hCK h0 hsz
    go_enter Tryd.func10, Tryd.ntmps10
    go_wp2_with fail
    refine HCK.out.mono ?_
    rintro e w3 ⟨rfl, hb3⟩
    have HB3 := hidd (HB2.out.trans (hb3.mono hz2))
    have HQ2 := hidd (hq2.below hb3 hq2.lt)
    have hk1 := hq1.below hb3 hq1.lt
    have x0 := hk1.cell (i := 0) rfl
    have x1 := hk1.cell (i := 1) rfl
    have x2 := hk1.cell (i := 2) rfl
    have x3 := hk1.cell (i := 3) rfl
    clear hb3 hk1 hq1 hq2 HCK hz2
    go_wp2_with fail
    refine (HCP.out _ HB3.out).mono ?_
    rintro e w4 ⟨na, nc, ksn, rfl, hbr, hno, hni, hb4⟩
    simp only [Tr.kind, Tr.data, Tr.exec] at hbr hno hni ⊢
    have hz3 := HB3.out.size
    have hz4 := hb4.size
    have HQ4 := HQ2.out.below hb4 HQ2.out.lt
    have hlt4 := HQ4.lt
    have hAL : Below w4.heap.size w4 (w4.alloc (.cells #[.string kt, .string dt, .bool et, .slice na ksn.length nc] 24)) := (Below.refl _ _).alloc (Nat.le_refl _) _
    have hlt3 := HQ2.out.lt
    have hK : ApK w w4.heap.size (applyL 0 (Tr.mk kt dt et (.slice ta kst.length tc) kst : Lt).bare (ls.map Ch.bare)) ls 0 (.mk kt dt et (.slice na ksn.length nc) ksn) (w4.alloc (.cells #[.string kt, .string dt, .bool et, .slice na ksn.length nc] 24)) :=
      ⟨Blk.new w4 _ _, HQ4.alloc _, hno.ob hAL, in_mono (fun b hb => ⟨by omega, by omega⟩) _ hni, by rw [hbr, List.drop_zero], (HB3.out.trans (hb4.mono hz3)).trans (hAL.mono (by omega)), by omega⟩
    have HK := hidd hK
    obtain ⟨R, hR⟩ : ∃ R, applyL 0 (Tr.mk kt dt et (.slice ta kst.length tc) kst : Lt).bare (ls.map Ch.bare) = R := ⟨_, rfl⟩
    have HRR := hidd hR
    rw [hR] at HK
    clear x0 x1 x2 x3 hbr hno hni hb4 HQ4 hAL hK HCP hR hlt3 hlt4
    go_upto_region 5 with fail
    generalize w4.alloc (.cells #[.string kt, .string dt, .bool et, .slice na ksn.length nc] 24) = w5 at *
    generalize w4.heap.size = pn at *
    go_wp2_with fail
    go_loopw [22] (fun vi wr => ∃ (i : Nat) (y : Lt), i ≤ ls.length ∧ vi = .int .i64 (i : Int) ∧ ApK w pn R ls i y wr) (fun vi _ => ls.length - (intOf vi).toNat)
    case atStart => exact ⟨0, _, Nat.zero_le _, rfl, HK.out⟩
    case round =>
      obtain ⟨i, y, hi, rfl, hk⟩ := hrel
      obtain ⟨ya, yc, hyv⟩ := hk.oy.shape
      obtain ⟨ky, dy, ey, vy, ksy⟩ := y
      simp only [Tr.v, Tr.kids] at hyv
      subst hyv
      have n0 := hk.bn.cell (i := 0) rfl
      have n1 := hk.bn.cell (i := 1) rfl
      have n2 := hk.bn.cell (i := 2) rfl
      have n3 := hk.bn.cell (i := 3) rfl
      simp only [Tr.kind, Tr.data, Tr.exec, Tr.v] at n0 n1 n2 n3
      have hpn := hk.hp
      have hpl := hk.bn.lt
      by_cases hlt : i < ls.length
      · have hL := HLS.out wr hk.below
        obtain ⟨b1, o1, rfl, hb1, a0, a1, a2, a3, a4, a5⟩ := sl_atc hL.sl hlt
        have hco := hL.ok _ (List.getElem_mem hlt)
        have hps := HPS.out _ (List.getElem_mem hlt)
        obtain ⟨c, hc⟩ : ∃ c, ls[i] = c := ⟨_, rfl⟩
        have HCC : Hid (ls[i] = c) := hidd hc
        rw [hc] at a0 a1 a2 a3 a4 a5 hco hps
        have p1 : (0 : Int) ≤ (i : Int) := by omega
        have p2 : (i : Int) < (ls.length : Int) := by omega
        have HKK := hidd hk
        have HCH := hidd (fun W (h : Below wr.heap.size wr W) => change_any E B (.mk ky dy ey (.slice ya ksy.length yc) ksy) c W (HKK.out.later h).oy (hco.ob h) (HEN.out W (HKK.out.later h).below) (HML.out W (HKK.out.later h).below) hps)
        obtain ⟨nna, nnc, hnv⟩ := hco.shape
        obtain ⟨kc, pc, ⟨kn, dn, en, vn, ksn2⟩⟩ := c
        simp only [Tr.v, Tr.kids, Tr.kind, Tr.data, Tr.exec] at hnv a0 a1 a2 a3 a4 a5
        subst hnv
        unfold nval cval at HCH
        simp only [Tr.kind, Tr.data, Tr.exec, Tr.v] at HCH
        have hA1 : Below wr.heap.size wr (wr.alloc (.cells #[.string kc, .string pc, .string kn, .string dn, .bool en, .slice nna ksn2.length nnc] 38)) := (Below.refl _ _).alloc (Nat.le_refl _) _
        have HC := hidd (HCH.out _ hA1)
        have HA1 := hidd hA1
        clear hc hL hco hps hk HCH hA1
        go_wp2_with fail
        refine HC.out.mono ?_
        rintro e w6 ⟨kz, dz, ez, za, zc, ksz, cz, rfl, hb6, hc10, hzo, hzi, hzr⟩
        have hb6w := HA1.out.trans (hb6.mono HA1.out.size)
        have HB6 := hidd hb6w
        have hz16 := HA1.out.size
        clear n0 n1 n2 n3 a0 a1 a2 a3 a4 a5 HC
        by_cases hcz : cz = 0
        · subst hcz
          have hAL : Below w6.heap.size w6 (w6.alloc (.cells #[.string kz, .string dz, .bool ez, .slice za ksz.length zc] 24)) := (Below.refl _ _).alloc (Nat.le_refl _) _
          have hk7 := (HKK.out.later hb6w).later hAL
          have hbx := Blk.new w6 [.string kz, .string dz, .bool ez, .slice za ksz.length zc] 24
          have hok : changeOf (Tr.mk ky dy ey (.slice ya ksy.length yc) ksy : Lt).bare ls[i].bare = .ok (Tr.mk kz dz ez (.slice za ksz.length zc) ksz : Lt).bare := by
            rw [HCC.out]
            have h := hzr.out
            unfold RW at h
            rcases h with ⟨-, h⟩ | ⟨h, -⟩
            · exact absurd rfl h
            · exact h
          have hzb : w.heap.size + 2 ≤ pn ∧ pn < wr.heap.size := ⟨hpn, hpl⟩
          have hk8 := hk7.next hlt (hzo.out.ob hAL) (in_mono (fun b hb => by have h1 : (wr.alloc (.cells #[.string kc, .string pc, .string kn, .string dn, .bool en, .slice nna ksn2.length nnc] 38)).heap.size ≤ b := hb; exact ⟨by omega, by omega⟩) _ (hzi.out rfl)) hok
          have f0 := hk7.bn.frozen 0
          have f1 := hk7.bn.frozen 1
          have f2 := hk7.bn.frozen 2
          have f3 := hk7.bn.frozen 3
          have n0 := hk7.bn.cell (i := 0) rfl
          have n1 := hk7.bn.cell (i := 1) rfl
          have n2 := hk7.bn.cell (i := 2) rfl
          have n3 := hk7.bn.cell (i := 3) rfl
          simp only [Tr.kind, Tr.data, Tr.exec, Tr.v] at n0 n1 n2 n3
          have x0 := hbx.cell (i := 0) rfl
          have x1 := hbx.cell (i := 1) rfl
          have x2 := hbx.cell (i := 2) rfl
          have x3 := hbx.cell (i := 3) rfl
          have HK8 := hidd hk8
          clear hk7 hk8 hbx hok hzo hzi hzr hb6 hb6w hAL HKK HCC
          rw [evc_zero]
          go_wp2_with fail
          go_roundw
          case rel => exact ⟨i + 1, _, by omega, by go_num, HK8.out⟩
          case measure => simp [intOf]; omega
        · obtain ⟨ad, had⟩ := evc_some (E := E) hcz
          have HAD := hidd had
          have herr : R = .error (cz, i) := by
            have h := hzr.out
            unfold RW at h
            rcases h with ⟨h, -⟩ | ⟨-, h⟩
            · have h2 := HKK.out.r
              rw [show ls.drop i = ls[i] :: ls.drop (i + 1) from (List.getElem_cons_drop hlt).symm, List.map_cons, HCC.out, applyL_err h] at h2
              exact h2.symm
            · exact absurd h hcz
          have hkx := (HKK.out.later hb6w).later ((Below.refl w6.heap.size w6).alloc (Nat.le_refl _) (.cells #[.string kz, .string dz, .bool ez, .slice za ksz.length zc] 24))
          have hky := hkx.later ((Below.refl (w6.alloc (.cells #[.string kz, .string dz, .bool ez, .slice za ksz.length zc] 24)).heap.size (w6.alloc (.cells #[.string kz, .string dz, .bool ez, .slice za ksz.length zc] 24))).alloc (Nat.le_refl _) (.cells #[.int .i64 (i : Int), .iface 178 (.pointer (some ad))] 60))
          have hbf := Blk.new (w6.alloc (.cells #[.string kz, .string dz, .bool ez, .slice za ksz.length zc] 24)) [.int .i64 (i : Int), .iface 178 (.pointer (some ad))] 60
          have HKD := hidd hky
          have hz6 := hb6w.size
          have f0 := HKD.out.bz.frozen 0
          have f1 := HKD.out.bz.frozen 1
          have f2 := HKD.out.bz.frozen 2
          have f3 := HKD.out.bz.frozen 3
          have y0 := HKD.out.bz.cell (i := 0) rfl
          have y1 := HKD.out.bz.cell (i := 1) rfl
          have y2 := HKD.out.bz.cell (i := 2) rfl
          have y3 := HKD.out.bz.cell (i := 3) rfl
          obtain ⟨hBF, hBk, hFR⟩ := HKD.out.done (.string ⟨#[]⟩) (.string ⟨#[]⟩) (.bool false) (.slice none 0 0)
          have r0 := hBk.cell (i := 0) rfl
          have r1 := hBk.cell (i := 1) rfl
          have r2 := hBk.cell (i := 2) rfl
          have r3 := hBk.cell (i := 3) rfl
          have HBF := hidd hBF
          have hbff := hbf.fr hFR (by simp; omega)
          have HBFF := hidd hbff
          have HERR := hidd herr
          have HCZ := hidd hcz
          rw [had]
          clear hkx hky hbf hBk hFR hBF hbff herr hcz had hzo hzi hzr hb6 hb6w HKD HKK hz6 hz16
          go_wp2_with fail
          refine bodyPost_ret (v := .tuple #[.agg #[.string ⟨#[]⟩, .string ⟨#[]⟩, .bool false, .slice none 0 0], .iface 58 (.pointer (some ⟨w6.heap.size + 1, 0, none⟩))]) ?_ rfl ?_
          · rw [results_cell_tmp rfl]
            go_simp
          · exact ⟨HBF.out, .inr (.inl ⟨HE0.out, cz, i, w6.heap.size + 1, by rw [HRR.out]; exact HERR.out, HCZ.out, hc10, rfl, by rw [HAD.out]; have h := HBFF.out; simp at h; exact h⟩)⟩
      · obtain rfl : i = ls.length := by omega
        have hr := hk.r
        rw [List.drop_of_length_le (Nat.le_refl _), List.map_nil, applyL_nil] at hr
        have HKD := hidd hk
        have f0 := HKD.out.bz.frozen 0
        have f1 := HKD.out.bz.frozen 1
        have f2 := HKD.out.bz.frozen 2
        have f3 := HKD.out.bz.frozen 3
        have y0 := HKD.out.bz.cell (i := 0) rfl
        have y1 := HKD.out.bz.cell (i := 1) rfl
        have y2 := HKD.out.bz.cell (i := 2) rfl
        have y3 := HKD.out.bz.cell (i := 3) rfl
        obtain ⟨hBF, hBk, hFR⟩ := HKD.out.done (.string ky) (.string dy) (.bool ey) (.slice ya ksy.length yc)
        have r0 := hBk.cell (i := 0) rfl
        have r1 := hBk.cell (i := 1) rfl
        have r2 := hBk.cell (i := 2) rfl
        have r3 := hBk.cell (i := 3) rfl
        have HBF := hidd hBF
        have HYO := hidd (ok_fr hFR _ hk.oy (in_mono (fun b hb e => hb.2 e) _ hk.iy))
        have HRE := hidd hr
        clear hBk hFR hBF hk hr HKD
        go_wp2_with fail
        refine bodyPost_ret (v := .tuple #[.agg #[.string ky, .string dy, .bool ey, .slice ya ksy.length yc], .nilIface]) ?_ rfl ?_
        · rw [results_cell_tmp rfl]
          go_simp
        · exact ⟨HBF.out, .inr (.inr ⟨HE0.out, .mk ky dy ey (.slice ya ksy.length yc) ksy, by rw [HRR.out]; exact HRE.out.symm, rfl, HYO.out⟩)⟩
  · skip
    have hbd : treeE (Tr.mk kt dt et (.slice ta kst.length tc) kst : Lt) ≤ 10 := scan_bd _ 0
    have HC0 : Hid (treeE (Tr.mk kt dt et (.slice ta kst.length tc) kst : Lt).bare ≠ 0) := hidd (by rw [HTB.out]; exact h0)
    obtain ⟨ad, had⟩ := evc_some (E := E) h0
    rw [had] at hCK
    have HAD := hidd had
    have HCK := hidd hCK
    clear ht hl hE hM hs hB2 hCK h0 had
    go_enter Tryd.func10, Tryd.ntmps10
    go_wp2_with fail
    refine HCK.out.mono ?_
    rintro e w3 ⟨rfl, hb3⟩
    have hbz := hq2.below hb3 hq2.lt
    have HB3 := HB2.out.trans (hb3.mono hz2)
    have hK : ApK w (w.heap.size + 2) (.ok NdZ) [] 0 zLt w3 ∨ True := .inr trivial
    have f0 := hbz.frozen 0
    have f1 := hbz.frozen 1
    have f2 := hbz.frozen 2
    have f3 := hbz.frozen 3
    have y0 := hbz.cell (i := 0) rfl
    have y1 := hbz.cell (i := 1) rfl
    have y2 := hbz.cell (i := 2) rfl
    have y3 := hbz.cell (i := 3) rfl
    have hBk := hbz.four (x0 := .string ⟨#[]⟩) (x1 := .string ⟨#[]⟩) (x2 := .bool false) (x3 := .slice none 0 0)
    have hFR := (Fr.refl (fun b => b = w.heap.size + 1) w3).four (p := w.heap.size + 1) (.inl rfl) (.string ⟨#[]⟩) (.string ⟨#[]⟩) (.bool false) (.slice none 0 0)
    have HBF := hidd (HB3.trans (hFR.below HB3.size (fun b e => by omega)))
    have r0 := hBk.cell (i := 0) rfl
    have r1 := hBk.cell (i := 1) rfl
    have r2 := hBk.cell (i := 2) rfl
    have r3 := hBk.cell (i := 3) rfl
    clear hbz HB3 hb3 hBk hFR hq1 hq2 HCK hK
    go_wp2_with fail
    refine bodyPost_ret (v := .tuple #[.agg #[.string ⟨#[]⟩, .string ⟨#[]⟩, .bool false, .slice none 0 0], .iface 178 (.pointer (some ad))]) ?_ rfl ?_
    · rw [results_cell_tmp rfl]
      go_simp
    · exact ⟨HBF.out, .inl ⟨_, rfl, HC0.out, by rw [HTB.out]; exact hbd, by rw [HTB.out, HAD.out]; rfl⟩⟩
end Go.Proofs.YtoaedkinlnkkhaaDoor
