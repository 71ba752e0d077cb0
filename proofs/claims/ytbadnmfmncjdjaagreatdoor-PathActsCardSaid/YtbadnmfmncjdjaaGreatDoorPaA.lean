/- The contract of path.at. Condition: the tree is there, and well. -/
import Derived.Test.YtbadnmfmncjdjaaGreatDoorPaK
import Derived.Test.YtbadnmfmncjdjaaGreatDoorPaP
import Derived.Test.YtbadnmfmncjdjaaGreatDoorTrFU
import Derived.Laws.ResultCell
namespace Go.Proofs.YtbadnmfmncjdjaaGreatDoor
open Go.RowKit Go.Shelf

theorem find_some {α : Type} {ks : List (ByteArray × α)} {n : ByteArray} {i : Nat} (h : FndK ks n i true) : ∃ hi : i < ks.length, ks[i].1 = n ∧ ks.find? (fun k => decide (k.1 = n)) = some ks[i] := by
  obtain ⟨h1, h2, h3, h4⟩ := h
  obtain ⟨hi, he⟩ := h4.1 rfl
  refine ⟨hi, he, ?_⟩
  rw [List.find?_eq_some_iff_getElem]
  refine ⟨by simpa using he, i, hi, rfl, fun j hj => ?_⟩
  have := h2 j (by omega) hj
  simp only [Bool.not_eq_true', decide_eq_false_iff_not]
  intro e
  rw [e] at this
  have := (cmpB_eq (a := n) (b := n)).2 rfl
  omega
theorem find_none {α : Type} {ks : List (ByteArray × α)} {n : ByteArray} {i : Nat} (hr : rising (ks.map (·.1)) = true) (h : FndK ks n i false) : ks.find? (fun k => decide (k.1 = n)) = none := by
  obtain ⟨h1, h2, h3, h4⟩ := h
  have hself := (cmpB_eq (a := n) (b := n)).2 rfl
  rw [List.find?_eq_none]
  intro x hx hd
  obtain ⟨j, hj, rfl⟩ := List.getElem_of_mem hx
  have e : ks[j].1 = n := of_decide_eq_true hd
  by_cases hji : j < i
  · have := h2 j hj hji; rw [e] at this; omega
  · by_cases he : j = i
    · subst he
      have := h4.2 ⟨hj, e⟩
      cases this
    · have h5 := rising_lt hr i j (by omega) (by simpa using hj)
      simp only [List.getElem_map] at h5
      rw [e] at h5
      have := h3 i (by omega) (Nat.le_refl _)
      omega
theorem own_rising {α : Type} {t : Tr α} (h : ownE t = 0) : rising (t.kids.map (·.1)) = true := by
  unfold ownE at h
  repeat (split at h; omega)
  rename_i h6
  cases hq : rising (t.kids.map (·.1)) with
  | true => rfl
  | false => exact absurd hq h6
theorem right_rising {α : Type} {t : Tr α} (h : treeE t = 0) : rising (t.kids.map (·.1)) = true := own_rising (treeE_own h).1
theorem right_sz {α : Type} {t : Tr α} (h : treeE t = 0) : t.sz ≤ 200 := by
  have h1 := (scan_zero h).2 (by rw [pre_cons]; simp)
  rw [pre_len] at h1
  omega
theorem right_kids {α : Type} {t : Tr α} (h : treeE t = 0) : t.kids.length ≤ 200 := by
  have h1 := right_sz h
  have h2 := Tr.sz_kids t
  have h3 : t.kids.length ≤ Tr.szs t.kids := by
    rw [← pres_len ⟨#[]⟩ 0]
    generalize t.kids = l
    clear h h1 h2
    induction l with
    | nil => simp
    | cons x r ih => obtain ⟨n, t⟩ := x; rw [pres, List.length_append, pre_cons]; simp only [List.length_cons]; omega
  omega
theorem atT_right {α : Type} : ∀ {l : List ByteArray} {t x : Tr α}, treeE t = 0 → atT t l = some x → treeE x = 0
  | [], t, x, h, e => by rw [atT] at e; rw [← Option.some.inj e]; exact h
  | n :: r, t, x, h, e => by
    rw [atT] at e
    cases hf : t.kids.find? (fun k => decide (k.1 = n)) with
    | none => rw [hf] at e; cases e
    | some k =>
      rw [hf] at e
      exact atT_right (kid_right h (List.mem_of_find?_eq_some hf)) e
theorem atT_ok {w : World} : ∀ {l : List ByteArray} {t x : Lt}, t.Ok w → atT t l = some x → x.Ok w
  | [], t, x, h, e => by rw [atT] at e; rw [← Option.some.inj e]; exact h
  | n :: r, t, x, h, e => by
    rw [atT] at e
    cases hf : t.kids.find? (fun k => decide (k.1 = n)) with
    | none => rw [hf] at e; cases e
    | some k =>
      rw [hf] at e
      exact atT_ok (h.kid (List.mem_of_find?_eq_some hf)) e

/-- A node's cells set in a block. -/
theorem Blk.four {w : World} {p : Nat} {c0 c1 c2 c3 x0 x1 x2 x3 : Value} {T : TypeId} (h : Blk w p [c0, c1, c2, c3] T) :
    Blk ((((w.setCell ⟨p, 0, none⟩ x0).setCell ⟨p, 1, none⟩ x1).setCell ⟨p, 2, none⟩ x2).setCell ⟨p, 3, none⟩ x3) p [x0, x1, x2, x3] T :=
  (((h.set 0 x0).set 1 x1).set 2 x2).set 3 x3
theorem Fr.four {S : Nat → Prop} {a w : World} (h : Fr S a w) {p : Nat} (hp : S p ∨ a.heap.size ≤ p) (x0 x1 x2 x3 : Value) :
    Fr S a ((((w.setCell ⟨p, 0, none⟩ x0).setCell ⟨p, 1, none⟩ x1).setCell ⟨p, 2, none⟩ x2).setCell ⟨p, 3, none⟩ x3) :=
  (((h.setCell (p := ⟨p, 0, none⟩) hp x0).setCell (p := ⟨p, 1, none⟩) hp x1).setCell (p := ⟨p, 2, none⟩) hp x2).setCell (p := ⟨p, 3, none⟩) hp x3

/-- No node. -/
def nodeZ : Value := .agg #[.string ⟨#[]⟩, .string ⟨#[]⟩, .bool false, .slice none 0 0]
/-- What path.at gives. -/
def AtP (r : Option Lt) (w : World) (e : Ending) (w' : World) : Prop :=
  Below w.heap.size w w' ∧ ((∃ x : Lt, r = some x ∧ e = .returned (.tuple #[nval x, .bool true])) ∨ (r = none ∧ e = .returned (.tuple #[nodeZ, .bool false])))

set_option maxRecDepth 100000 in
set_option maxHeartbeats 4000000 in
theorem at_any (t : Lt) (v : Value) (l : List ByteArray) (w : World) (ht : t.Ok w) (h0 : treeE t = 0) (hl : Sl w v (tcells l) l.length 1) :
    Calls Tryz.prog 38 #[nval t, v] w (AtP (atT t l) w) := by
  obtain ⟨la, lc, rfl, -⟩ := id hl
  have hle := hl.le
  obtain ⟨a, cap, hv⟩ := ht.shape
  have hB0 : Below w.heap.size w ((w.alloc (.cells #[.string t.kind, .string t.data, .bool t.exec, .slice a t.kids.length cap] 24)).alloc (.cells #[.string ⟨#[]⟩, .string ⟨#[]⟩, .bool false, .slice none 0 0] 24)) := ((Below.refl _ _).alloc (Nat.le_refl _) _).alloc (by simp) _
  have hq1 := (Blk.new w [.string t.kind, .string t.data, .bool t.exec, .slice a t.kids.length cap] 24).alloc (.cells #[.string ⟨#[]⟩, .string ⟨#[]⟩, .bool false, .slice none 0 0] 24)
  have hq2 := Blk.new (w.alloc (.cells #[.string t.kind, .string t.data, .bool t.exec, .slice a t.kids.length cap] 24)) [.string ⟨#[]⟩, .string ⟨#[]⟩, .bool false, .slice none 0 0] 24
  rw [show (w.alloc (.cells #[.string t.kind, .string t.data, .bool t.exec, .slice a t.kids.length cap] 24)).heap.size = w.heap.size + 1 by simp] at hq2
  have hn : ncells t = [.string t.kind, .string t.data, .bool t.exec, .slice a t.kids.length cap] := by unfold ncells; rw [hv]
  obtain ⟨R, hR⟩ : ∃ R, atT t l = R := ⟨_, rfl⟩
  rw [hR]
  have HS : Hid (∃ c : Lt, treeE c = 0 ∧ atT c (l.drop 0) = R ∧ c.Ok w ∧ Blk ((w.alloc (.cells #[.string t.kind, .string t.data, .bool t.exec, .slice a t.kids.length cap] 24)).alloc (.cells #[.string ⟨#[]⟩, .string ⟨#[]⟩, .bool false, .slice none 0 0] 24)) w.heap.size (ncells c) 24) := hidd ⟨t, h0, hR, ht, by rw [hn]; exact hq1⟩
  unfold nval
  rw [hv]
  clear hq1 hn ht h0 hR hv
  go_enter Tryz.func38, Tryz.ntmps38
  go_wp2_with fail
  go_loopw [7, 8, 9, 12] (fun _ _ _ s wr => ∃ (i : Nat), i ≤ l.length ∧ s = .int .i64 (i : Int) ∧ Hid (∃ c : Lt, treeE c = 0 ∧ atT c (l.drop i) = R ∧ c.Ok w ∧ Blk wr w.heap.size (ncells c) 24) ∧
      Blk wr (w.heap.size + 1) [.string ⟨#[]⟩, .string ⟨#[]⟩, .bool false, .slice none 0 0] 24 ∧ Below w.heap.size w wr) (fun _ _ _ s _ => l.length - (intOf s).toNat)
  case atStart => exact ⟨0, Nat.zero_le _, rfl, HS, hq2, hB0⟩
  case round =>
    obtain ⟨i, hi, rfl, HC, hb2, hbel⟩ := hrel
    obtain ⟨c, hc0, hcR, hcw, hb1⟩ := HC.out
    clear HS hq2 hB0 HC
    have hcr := hcw.ob hbel
    obtain ⟨ca, cc, hcv⟩ := hcw.shape
    have hk200 := right_kids hc0
    have hris := right_rising hc0
    obtain ⟨kc, dc, ec, vc, ksc⟩ := c
    simp only [Tr.v, Tr.kids] at hcv hk200 hris
    subst hcv
    unfold ncells at hb1
    simp only [Tr.kind, Tr.data, Tr.exec, Tr.v] at hb1
    have x0 := hb1.cell (i := 0) rfl
    have x1 := hb1.cell (i := 1) rfl
    have x2 := hb1.cell (i := 2) rfl
    have x3 := hb1.cell (i := 3) rfl
    by_cases hlt : i < l.length
    · have hA := hl.ob hbel (Nat.le_refl _)
      obtain ⟨b, off, rfl, hb, hc, hcell⟩ := hA.at1 hlt
      rw [show (tcells l)[i] = .string l[i] by simp [tcells]] at hcell
      have hdr : l.drop i = l[i] :: l.drop (i + 1) := by rw [List.getElem_cons_drop]
      have p1 : (0 : Int) ≤ (i : Int) := by omega
      have p2 : (i : Int) < (l.length : Int) := by omega
      rw [hdr] at hcR
      generalize l[i] = n at *
      rw [atT] at hcR
      simp only [Tr.kids] at hcR
      have HK := hidd (kid_find (.mk kc dc ec (.slice ca ksc.length cc) ksc) n wr hcr (by simp only [Tr.kids]; omega) hris)
      unfold nval at HK
      simp only [Tr.kind, Tr.data, Tr.exec, Tr.v, Tr.kids] at HK
      have HCR := hidd hcR
      have HRI := hidd hris
      have HC0 := hidd hc0
      have HCW := hidd hcw
      clear hdr hcR hA hris hc0 hcw
      go_wp2_with fail
      refine HK.out.mono ?_
      rintro e w2 ⟨k, f, rfl, hf, hbk⟩
      have hB2 := hbel.trans (hbk.mono hbel.size)
      have hb12 := hb1.below hbk hb1.lt
      have hb22 := hb2.below hbk hb2.lt
      have hc2 := hcr.ob hbk
      clear x0 x1 x2 x3 hb1 hb2 hbel hbk hcr hcell
      cases f
      · have HF := hidd (find_none HRI.out hf)
        have HN : Hid (R = none) := hidd (by have := HCR.out; rw [HF.out] at this; exact this.symm)
        have f0 := hb22.frozen 0
        have f1 := hb22.frozen 1
        have f2 := hb22.frozen 2
        have f3 := hb22.frozen 3
        have y0 := hb22.cell (i := 0) rfl
        have y1 := hb22.cell (i := 1) rfl
        have y2 := hb22.cell (i := 2) rfl
        have y3 := hb22.cell (i := 3) rfl
        have s4 := hb22.four (x0 := .string ⟨#[]⟩) (x1 := .string ⟨#[]⟩) (x2 := .bool false) (x3 := .slice none 0 0)
        have r0 := s4.cell (i := 0) rfl
        have r1 := s4.cell (i := 1) rfl
        have r2 := s4.cell (i := 2) rfl
        have r3 := s4.cell (i := 3) rfl
        have hBB := hB2.trans (((Fr.refl (fun b => b = w.heap.size + 1) w2).four (p := w.heap.size + 1) (.inl rfl) (.string ⟨#[]⟩) (.string ⟨#[]⟩) (.bool false) (.slice none 0 0)).below hB2.size (fun b e => by omega))
        clear hf HCR HF hB2 s4 hb22
        go_wp2_with fail
        refine bodyPost_ret (v := .tuple #[.agg #[.string ⟨#[]⟩, .string ⟨#[]⟩, .bool false, .slice none 0 0], .bool false]) ?_ rfl ?_
        · rw [results_cell_tmp rfl]
          go_simp
        · exact ⟨hBB, .inr ⟨HN.out, rfl⟩⟩
      · obtain ⟨hk, hkn, hfs⟩ := find_some hf
        have HR2 : Hid (atT ksc[k].2 (l.drop (i + 1)) = R) := hidd (by have := HCR.out; rw [hfs] at this; exact this)
        have HK0 := hidd (kid_right HC0.out (x := ksc[k]) (List.getElem_mem hk))
        have HKO := hidd (HCW.out.kid (x := ksc[k]) (List.getElem_mem hk))
        obtain ⟨b1, o1, hca, hb1l, a0, a1, a2, a3, a4⟩ := hc2.at5 rfl hk
        subst hca
        simp only [Tr.kids] at a0 a1 a2 a3 a4
        have p3 : (0 : Int) ≤ (k : Int) := by omega
        have p4 : (k : Int) < (ksc.length : Int) := by omega
        obtain ⟨sa, sc, hvx⟩ := HKO.out.shape
        clear hf hfs hkn hc2 HCR
        generalize ksc[k] = x at *
        obtain ⟨nx, ⟨kx, dx, ex, vx, ksx⟩⟩ := x
        simp only [Tr.kind, Tr.data, Tr.exec, Tr.v, Tr.kids] at a1 a2 a3 a4 hvx
        subst hvx
        have x3 := hb12.cell (i := 3) rfl
        have x0 := hb12.cell (i := 0) rfl
        have x1 := hb12.cell (i := 1) rfl
        have x2 := hb12.cell (i := 2) rfl
        have f0 := hb12.frozen 0
        have f1 := hb12.frozen 1
        have f2 := hb12.frozen 2
        have f3 := hb12.frozen 3
        have s4 := hb12.four (x0 := .string kx) (x1 := .string dx) (x2 := .bool ex) (x3 := .slice sa ksx.length sc)
        have hFR := (Fr.refl (fun b => b = w.heap.size) w2).four (p := w.heap.size) (.inl rfl) (.string kx) (.string dx) (.bool ex) (.slice sa ksx.length sc)
        have hBB := hB2.trans (hFR.below hB2.size (fun b e => by omega))
        have hbb2 := hb22.fr hFR (by omega)
        have HN := hidd (⟨_, HK0.out, HR2.out, HKO.out, s4⟩ : ∃ c : Lt, treeE c = 0 ∧ atT c (l.drop (i + 1)) = R ∧ c.Ok w ∧ Blk _ w.heap.size (ncells c) 24)
        clear hB2 s4 hb22 hb12 hFR HK0 HR2 HKO
        go_wp2_with fail
        go_roundw
        case rel => exact ⟨i + 1, hlt, by go_num, HN, hbb2, hBB⟩
        case measure => simp [intOf]; omega
    · have hil : i = l.length := by omega
      have HN : Hid (R = some (.mk kc dc ec (.slice ca ksc.length cc) ksc)) := hidd (by rw [hil, List.drop_of_length_le (Nat.le_refl _), atT] at hcR; exact hcR.symm)
      have f0 := hb2.frozen 0
      have f1 := hb2.frozen 1
      have f2 := hb2.frozen 2
      have f3 := hb2.frozen 3
      have y0 := hb2.cell (i := 0) rfl
      have y1 := hb2.cell (i := 1) rfl
      have y2 := hb2.cell (i := 2) rfl
      have y3 := hb2.cell (i := 3) rfl
      have s4 := hb2.four (x0 := .string kc) (x1 := .string dc) (x2 := .bool ec) (x3 := .slice ca ksc.length cc)
      have r0 := s4.cell (i := 0) rfl
      have r1 := s4.cell (i := 1) rfl
      have r2 := s4.cell (i := 2) rfl
      have r3 := s4.cell (i := 3) rfl
      have hBB := hbel.trans (((Fr.refl (fun b => b = w.heap.size + 1) wr).four (p := w.heap.size + 1) (.inl rfl) (.string kc) (.string dc) (.bool ec) (.slice ca ksc.length cc)).below hbel.size (fun b e => by omega))
      clear hcR hcr hcw hc0 hris hbel s4 hb1 hb2 hil
      go_wp2_with fail
      refine bodyPost_ret (v := .tuple #[.agg #[.string kc, .string dc, .bool ec, .slice ca ksc.length cc], .bool true]) ?_ rfl ?_
      · rw [results_cell_tmp rfl]
        go_simp
      · exact ⟨hBB, .inl ⟨_, HN.out, rfl⟩⟩
end Go.Proofs.YtbadnmfmncjdjaaGreatDoor
