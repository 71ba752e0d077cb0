/- The contracts of path.names and path.Get. Condition: the tree is there, the text is no longer than memory reaches, the variables read as listed. -/
import Derived.Test.YtbadnmfmncjdjaaGreatDoorPaA
import Derived.Test.YtbadnmfmncjdjaaGreatDoorPaS
import Derived.Test.YtbadnmfmncjdjaaGreatDoorTrC
namespace Go.Proofs.YtbadnmfmncjdjaaGreatDoor
open Go.RowKit Go.Shelf

set_option maxRecDepth 100000 in
theorem names_bad (E : Nat → Addr) (B : Nat) (t : Lt) (s : ByteArray) (w : World) (ht : t.Ok w) (hE : Env trGs B w E) (h0 : treeE t ≠ 0) :
    Calls Tryz.prog 34 #[nval t, .string s] w fun e w' => e = .returned (.tuple #[.slice none 0 0, evc E (treeE t)]) ∧ Below w.heap.size w w' := by
  obtain ⟨a, cap, hv⟩ := ht.shape
  have hB0 : Below w.heap.size w (w.alloc (.cells #[.string t.kind, .string t.data, .bool t.exec, .slice a t.kids.length cap] 24)) := (Below.refl _ _).alloc (Nat.le_refl _) _
  have hC := check_tr E B t _ (ht.ob hB0) (hE.ob hB0)
  rw [evc_ne h0] at hC ⊢
  unfold nval at hC ⊢
  rw [hv] at hC ⊢
  have HC := hidd hC
  clear hC hv ht hE h0
  go_enter Tryz.func34, Tryz.ntmps34
  go_wp2_with fail
  refine HC.out.mono ?_
  rintro e w2 ⟨rfl, hb2⟩
  go_wp2_with fail
  go_ret2
  exact ⟨rfl, hB0.trans (hb2.mono hB0.size)⟩

set_option maxRecDepth 100000 in
theorem names_ok (E : Nat → Addr) (B : Nat) (t : Lt) (s : ByteArray) (w : World) (ht : t.Ok w) (hE : Env trGs B w E) (hM : Ml w) (hs : s.size < 4294967281) (h0 : treeE t = 0) :
    Calls Tryz.prog 34 #[nval t, .string s] w (SplP E s w) := by
  obtain ⟨a, cap, hv⟩ := ht.shape
  have hB0 : Below w.heap.size w (w.alloc (.cells #[.string t.kind, .string t.data, .bool t.exec, .slice a t.kids.length cap] 24)) := (Below.refl _ _).alloc (Nat.le_refl _) _
  have hC := check_tr E B t _ (ht.ob hB0) (hE.ob hB0)
  have HE0 := hidd (hE.ob hB0)
  have HM0 := hidd (hM.ob hB0)
  rw [h0, evc_zero] at hC
  unfold nval at hC ⊢
  rw [hv] at hC ⊢
  have HC := hidd hC
  clear hC hv ht hE h0 hM
  go_enter Tryz.func34, Tryz.ntmps34
  go_wp2_with fail
  refine HC.out.mono ?_
  rintro e w2 ⟨rfl, hb2⟩
  have hB2 := hB0.trans (hb2.mono hB0.size)
  have HSP := hidd (split_any E B s w2 (HE0.out.ob hb2) (HM0.out.ob hb2) hs)
  clear hB0 hb2 HC
  go_wp2_with fail
  refine HSP.out.mono ?_
  rintro e w3 ⟨hb3, hr⟩
  have hB3 := hB2.trans (hb3.mono hB2.size)
  rcases hr with ⟨l, v, hsp, rfl, hsl⟩ | ⟨hsp, rfl⟩
  · have HP := hidd hsp
    have HL := hidd hsl
    obtain ⟨la, lc, rfl, -⟩ := id hsl
    clear hsp hsl hb3 hB2 HSP
    go_wp2_with fail
    go_ret2
    exact ⟨hB3, .inl ⟨l, _, HP.out, rfl, HL.out⟩⟩
  · have HP := hidd hsp
    obtain ⟨ev, hev⟩ : ∃ ev, evc E 5 = ev := ⟨_, rfl⟩
    have HV := hidd hev
    rw [hev]
    clear hsp hb3 hB2 HSP hev
    go_wp2_with fail
    go_ret2
    exact ⟨hB3, .inr ⟨HP.out, by rw [HV.out]; rfl⟩⟩

/-- What is got by a path: an error's number, or a node. -/
def getOf {α : Type} (t : Tr α) (s : ByteArray) : Except Nat (Tr α) :=
  if treeE t = 0 then match splitOf s with
    | none => .error 5
    | some l => match atT t l with
      | none => .error 6
      | some x => .ok x
  else .error (treeE t)
theorem getOf_err {α : Type} {t : Tr α} {s : ByteArray} (h : treeE t ≠ 0) : getOf t s = .error (treeE t) := by unfold getOf; rw [if_neg h]
theorem getOf_split {α : Type} {t : Tr α} {s : ByteArray} (h : treeE t = 0) (hs : splitOf s = none) : getOf t s = .error 5 := by unfold getOf; rw [if_pos h, hs]
theorem getOf_none {α : Type} {t : Tr α} {s : ByteArray} {l : List ByteArray} (h : treeE t = 0) (hs : splitOf s = some l) (ha : atT t l = none) : getOf t s = .error 6 := by unfold getOf; rw [if_pos h, hs]; simp only [ha]
theorem getOf_ok {α : Type} {t x : Tr α} {s : ByteArray} {l : List ByteArray} (h : treeE t = 0) (hs : splitOf s = some l) (ha : atT t l = some x) : getOf t s = .ok x := by unfold getOf; rw [if_pos h, hs]; simp only [ha]
/-- What path.Get gives. -/
def GetP (E : Nat → Addr) (t : Lt) (s : ByteArray) (w : World) (e : Ending) (w' : World) : Prop :=
  Below w.heap.size w w' ∧ ((∃ c, getOf t s = .error c ∧ c ≠ 0 ∧ c ≤ 10 ∧ e = .returned (.tuple #[nodeZ, evc E c])) ∨
    (∃ x y : Lt, getOf t s = .ok x ∧ treeE x = 0 ∧ e = .returned (.tuple #[nval y, .nilIface]) ∧ y.bare = x.bare ∧ y.Ok w' ∧ y.In (fun b => w.heap.size ≤ b ∧ b < w'.heap.size)))

set_option maxRecDepth 100000 in
set_option maxHeartbeats 4000000 in
theorem get_any (E : Nat → Addr) (B : Nat) (t : Lt) (s : ByteArray) (w : World) (ht : t.Ok w) (hE : Env trGs B w E) (hM : Ml w) (hs : s.size < 4294967281) :
    Calls Tryz.prog 10 #[nval t, .string s] w (GetP E t s w) := by
  obtain ⟨a, cap, hv⟩ := ht.shape
  have hB0 : Below w.heap.size w ((w.alloc (.cells #[.string t.kind, .string t.data, .bool t.exec, .slice a t.kids.length cap] 24)).alloc (.cells #[.string ⟨#[]⟩, .string ⟨#[]⟩, .bool false, .slice none 0 0] 24)) := ((Below.refl _ _).alloc (Nat.le_refl _) _).alloc (by simp) _
  have hq1 := (Blk.new w [.string t.kind, .string t.data, .bool t.exec, .slice a t.kids.length cap] 24).alloc (.cells #[.string ⟨#[]⟩, .string ⟨#[]⟩, .bool false, .slice none 0 0] 24)
  have hq2 := Blk.new (w.alloc (.cells #[.string t.kind, .string t.data, .bool t.exec, .slice a t.kids.length cap] 24)) [.string ⟨#[]⟩, .string ⟨#[]⟩, .bool false, .slice none 0 0] 24
  rw [show (w.alloc (.cells #[.string t.kind, .string t.data, .bool t.exec, .slice a t.kids.length cap] 24)).heap.size = w.heap.size + 1 by simp] at hq2
  have HT := hidd (ht.ob hB0)
  have HE0 := hidd (hE.ob hB0)
  have hg6 : 0 < w.heap.size := World.block_lt_of_cell? w _ (hE.cell 0 (by decide))
  have hne : ¬ (0 = w.heap.size + 1) := by omega
  have hne2 : ¬ (w.heap.size + 1 = 0) := by omega
  by_cases h0 : treeE t = 0
  · have hN := names_ok E B t s _ (ht.ob hB0) (hE.ob hB0) (hM.ob hB0) hs h0
    have HA := hidd (fun W v l (h : t.Ok W) (hl : Sl W v (tcells l) l.length 1) => at_any t v l W h h0 hl)
    have HAO := hidd (fun W l x (h : t.Ok W) (e : atT t l = some x) => (⟨atT_right h0 e, atT_ok h e⟩ : treeE x = 0 ∧ x.Ok W))
    have HG := hidd h0
    unfold nval at hN HA ⊢
    rw [hv] at hN HA ⊢
    have HN := hidd hN
    clear hN ht hE hM h0 hv
    go_enter Tryz.func10, Tryz.ntmps10
    go_wp2_with fail
    refine HN.out.mono ?_
    rintro e w2 ⟨hb2, hr⟩
    have hB2 := hB0.trans (hb2.mono hB0.size)
    have hk1 := hq1.below hb2 hq1.lt
    have hk2 := hq2.below hb2 hq2.lt
    have HT2 := hidd (HT.out.ob hb2)
    have HE2 := hidd (HE0.out.ob hb2)
    clear hq1 hq2 HN HT hb2
    rcases hr with ⟨l, v, hsp, rfl, hsl⟩ | ⟨hsp, rfl⟩
    · obtain ⟨la, lc, rfl, -⟩ := id hsl
      have HP := hidd hsp
      have x0 := hk1.cell (i := 0) rfl
      have x1 := hk1.cell (i := 1) rfl
      have x2 := hk1.cell (i := 2) rfl
      have x3 := hk1.cell (i := 3) rfl
      clear hsp
      go_wp2_with fail
      refine (HA.out _ _ l HT2.out hsl).mono ?_
      rintro e w3 ⟨hb3, hr⟩
      have hB3 := hB2.trans (hb3.mono hB2.size)
      have hl2 := hk2.below hb3 hk2.lt
      have HT3 := hidd (HT2.out.ob hb3)
      have HE3 := hidd (HE2.out.ob hb3)
      clear hk1 hk2 x0 x1 x2 x3 hsl hB2 hB0 HA HE0 HT2 HE2
      rcases hr with ⟨x, hx, rfl⟩ | ⟨hx, rfl⟩
      · obtain ⟨hx0, hxo⟩ := HAO.out _ l x HT3.out hx
        have HG2 : Hid (getOf t s = .ok x) := hidd (getOf_ok HG.out HP.out hx)
        have hsz := right_sz hx0
        have HX0 := hidd hx0
        obtain ⟨xa, xc, hxv⟩ := hxo.shape
        obtain ⟨kx, dx, ex, vx, ksx⟩ := x
        simp only [Tr.v, Tr.kids] at hxv
        subst hxv
        have HCP := hidd (fun W (h : (Tr.mk kx dx ex (.slice xa ksx.length xc) ksx : Lt).Ok W) => copy_any 300 _ W (by omega) (Nat.le_refl _) h)
        unfold nval at HCP ⊢
        simp only [Tr.kind, Tr.data, Tr.exec, Tr.v] at HCP ⊢
        have hwl := hl2.lt
        have hq4 := Blk.new w3 [.string kx, .string dx, .bool ex, .slice xa ksx.length xc] 24
        have hBa : Below w3.heap.size w3 (w3.alloc (.cells #[.string kx, .string dx, .bool ex, .slice xa ksx.length xc] 24)) := (Below.refl _ _).alloc (Nat.le_refl _) _
        have HXO := hidd (hxo.ob hBa)
        have hl3 := hl2.alloc (.cells #[.string kx, .string dx, .bool ex, .slice xa ksx.length xc] 24)
        have hBB := hB3.trans (hBa.mono hB3.size)
        clear hx hx0 hxo hsz HAO HP HG hl2 hB3
        go_wp2_with fail
        refine (HCP.out _ HXO.out).mono ?_
        rintro e w4 ⟨ya, yc, ksy, rfl, hbr, hyo, hyi, hb4⟩
        simp only [Tr.kind, Tr.data, Tr.exec] at hbr hyo hyi ⊢
        have hl4 := hl3.below hb4 hl3.lt
        have hB5 := hBB.trans (hb4.mono hBB.size)
        have f0 := hl4.frozen 0
        have f1 := hl4.frozen 1
        have f2 := hl4.frozen 2
        have f3 := hl4.frozen 3
        have y0 := hl4.cell (i := 0) rfl
        have y1 := hl4.cell (i := 1) rfl
        have y2 := hl4.cell (i := 2) rfl
        have y3 := hl4.cell (i := 3) rfl
        have s4 := hl4.four (x0 := .string kx) (x1 := .string dx) (x2 := .bool ex) (x3 := .slice ya ksy.length yc)
        have r0 := s4.cell (i := 0) rfl
        have r1 := s4.cell (i := 1) rfl
        have r2 := s4.cell (i := 2) rfl
        have r3 := s4.cell (i := 3) rfl
        have hFR := (Fr.refl (fun b => b = w.heap.size + 1) w4).four (p := w.heap.size + 1) (.inl rfl) (.string kx) (.string dx) (.bool ex) (.slice ya ksy.length yc)
        have hBF := hB5.trans (hFR.below hB5.size (fun b e => by omega))
        have HOK := hidd (ok_fr hFR _ hyo (in_mono (fun b hb e => by simp at hb; omega) _ hyi))
        have HIN := hidd (in_mono (G := fun b => w.heap.size ≤ b ∧ b < ((((w4.setCell ⟨w.heap.size + 1, 0, none⟩ (.string kx)).setCell ⟨w.heap.size + 1, 1, none⟩ (.string dx)).setCell ⟨w.heap.size + 1, 2, none⟩ (.bool ex)).setCell ⟨w.heap.size + 1, 3, none⟩ (.slice ya ksy.length yc)).heap.size) (fun b (hb : (w3.alloc (.cells #[.string kx, .string dx, .bool ex, .slice xa ksx.length xc] 24)).heap.size ≤ b ∧ b < w4.heap.size) => ⟨by have := hBB.size; omega, by have := hFR.size; omega⟩) _ hyi)
        have HBR := hidd hbr
        clear hbr hyo hyi hl4 hl3 hb4 hB5 hBB s4 hFR
        go_wp2_with fail
        refine bodyPost_ret (v := .tuple #[.agg #[.string kx, .string dx, .bool ex, .slice ya ksy.length yc], .nilIface]) ?_ rfl ?_
        · rw [results_cell_tmp rfl]
          go_simp
        · exact ⟨hBF, .inr ⟨_, _, HG2.out, HX0.out, rfl, HBR.out, HOK.out, HIN.out⟩⟩
      · have HG2 : Hid (getOf t s = .error 6) := hidd (getOf_none HG.out HP.out hx)
        have hcE := HE3.out.cell 0 (by decide)
        unfold erv at hcE
        have HV : Hid (evc E 6 = .iface 203 (.pointer (some (E 0)))) := hidd rfl
        unfold nodeZ
        have hBa : Below w3.heap.size w3 (w3.alloc (.cells #[.string ⟨#[]⟩, .string ⟨#[]⟩, .bool false, .slice none 0 0] 24)) := (Below.refl _ _).alloc (Nat.le_refl _) _
        have hl3 := hl2.alloc (.cells #[.string ⟨#[]⟩, .string ⟨#[]⟩, .bool false, .slice none 0 0] 24)
        have hcE3 := (HE3.out.ob hBa).cell 0 (by decide)
        unfold erv at hcE3
        have hBB := hB3.trans (hBa.mono hB3.size)
        have f0 := hl3.frozen 0
        have f1 := hl3.frozen 1
        have f2 := hl3.frozen 2
        have f3 := hl3.frozen 3
        have y0 := hl3.cell (i := 0) rfl
        have y1 := hl3.cell (i := 1) rfl
        have y2 := hl3.cell (i := 2) rfl
        have y3 := hl3.cell (i := 3) rfl
        have s4 := hl3.four (x0 := .string ⟨#[]⟩) (x1 := .string ⟨#[]⟩) (x2 := .bool false) (x3 := .slice none 0 0)
        have r0 := s4.cell (i := 0) rfl
        have r1 := s4.cell (i := 1) rfl
        have r2 := s4.cell (i := 2) rfl
        have r3 := s4.cell (i := 3) rfl
        have hBF := hBB.trans (((Fr.refl (fun b => b = w.heap.size + 1) (w3.alloc (.cells #[.string ⟨#[]⟩, .string ⟨#[]⟩, .bool false, .slice none 0 0] 24))).four (p := w.heap.size + 1) (.inl rfl) (.string ⟨#[]⟩) (.string ⟨#[]⟩) (.bool false) (.slice none 0 0)).below hBB.size (fun b e => by omega))
        clear hx HAO HP HG hB3 hl2 hl3 s4 hBa hBB hcE
        go_wp2_with fail
        go_region
        all_goals
          go_wp2_with fail
          refine bodyPost_ret (v := .tuple #[.agg #[.string ⟨#[]⟩, .string ⟨#[]⟩, .bool false, .slice none 0 0], evc E 6]) ?_ rfl ?_
          · rw [results_cell_tmp rfl]
            rw [HV.out]
            go_simp
          · exact ⟨hBF.drew, .inl ⟨6, HG2.out, by decide, by decide, rfl⟩⟩
    · have HG2 : Hid (getOf t s = .error 5) := hidd (getOf_split HG.out hsp)
      obtain ⟨ev, hev⟩ : ∃ ev, erv E 2 = ev := ⟨_, rfl⟩
      have hev2 : evc E 5 = ev := hev
      rw [hev2]
      have HV := hidd hev2
      unfold erv at hev
      subst hev
      have f0 := hk2.frozen 0
      have f1 := hk2.frozen 1
      have f2 := hk2.frozen 2
      have f3 := hk2.frozen 3
      have y0 := hk2.cell (i := 0) rfl
      have y1 := hk2.cell (i := 1) rfl
      have y2 := hk2.cell (i := 2) rfl
      have y3 := hk2.cell (i := 3) rfl
      have s4 := hk2.four (x0 := .string ⟨#[]⟩) (x1 := .string ⟨#[]⟩) (x2 := .bool false) (x3 := .slice none 0 0)
      have r0 := s4.cell (i := 0) rfl
      have r1 := s4.cell (i := 1) rfl
      have r2 := s4.cell (i := 2) rfl
      have r3 := s4.cell (i := 3) rfl
      have hBF := hB2.trans (((Fr.refl (fun b => b = w.heap.size + 1) w2).four (p := w.heap.size + 1) (.inl rfl) (.string ⟨#[]⟩) (.string ⟨#[]⟩) (.bool false) (.slice none 0 0)).below hB2.size (fun b e => by omega))
      clear hsp HAO HG hB2 hk2 s4 hev2 HA
      go_wp2_with fail
      refine bodyPost_ret (v := .tuple #[.agg #[.string ⟨#[]⟩, .string ⟨#[]⟩, .bool false, .slice none 0 0], evc E 5]) ?_ rfl ?_
      · rw [results_cell_tmp rfl]
        rw [HV.out]
        go_simp
      · exact ⟨hBF, .inl ⟨5, HG2.out, by decide, by decide, rfl⟩⟩
  · have hN := names_bad E B t s _ (ht.ob hB0) (hE.ob hB0) h0
    have HG2 : Hid (getOf t s = .error (treeE t)) := hidd (getOf_err h0)
    have hbd : treeE t ≤ 10 := scan_bd _ 0
    have HV := hidd (evc_ne (E := E) h0)
    have HC0 := hidd h0
    rw [evc_ne h0] at hN
    obtain ⟨c, hc⟩ : ∃ c, treeE t = c := ⟨_, rfl⟩
    rw [hc] at hN HG2 hbd HV HC0
    unfold nval at hN ⊢
    rw [hv] at hN ⊢
    have HN := hidd hN
    clear hN ht hE hM h0 hv hc
    go_enter Tryz.func10, Tryz.ntmps10
    go_wp2_with fail
    refine HN.out.mono ?_
    rintro e w2 ⟨rfl, hb2⟩
    have hB2 := hB0.trans (hb2.mono hB0.size)
    have hk2 := hq2.below hb2 hq2.lt
    have f0 := hk2.frozen 0
    have f1 := hk2.frozen 1
    have f2 := hk2.frozen 2
    have f3 := hk2.frozen 3
    have y0 := hk2.cell (i := 0) rfl
    have y1 := hk2.cell (i := 1) rfl
    have y2 := hk2.cell (i := 2) rfl
    have y3 := hk2.cell (i := 3) rfl
    have s4 := hk2.four (x0 := .string ⟨#[]⟩) (x1 := .string ⟨#[]⟩) (x2 := .bool false) (x3 := .slice none 0 0)
    have r0 := s4.cell (i := 0) rfl
    have r1 := s4.cell (i := 1) rfl
    have r2 := s4.cell (i := 2) rfl
    have r3 := s4.cell (i := 3) rfl
    have hBF := hB2.trans (((Fr.refl (fun b => b = w.heap.size + 1) w2).four (p := w.heap.size + 1) (.inl rfl) (.string ⟨#[]⟩) (.string ⟨#[]⟩) (.bool false) (.slice none 0 0)).below hB2.size (fun b e => by omega))
    clear hq1 hq2 HN HT hb2 hB2 hk2 s4 HE0 hB0
    go_wp2_with fail
    refine bodyPost_ret (v := .tuple #[.agg #[.string ⟨#[]⟩, .string ⟨#[]⟩, .bool false, .slice none 0 0], evc E c]) ?_ rfl ?_
    · rw [results_cell_tmp rfl]
      rw [HV.out]
      go_simp
    · exact ⟨hBF, .inl ⟨c, HG2.out, HC0.out, hbd, rfl⟩⟩
end Go.Proofs.YtbadnmfmncjdjaaGreatDoor
