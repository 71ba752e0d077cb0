/- The contract of pack's put for any right tree. Condition: the tree and the builder are there, the library's tables read as listed. -/
import Derived.Test.YtoaedkinlnkkhaaDoorPk9
namespace Go.Proofs.YtoaedkinlnkkhaaDoor
open Go.RowKit

mutual
/-- A tree that can be put. -/
def PutOk : Lt → Prop
  | .mk k d _ _ ks => (d.size ≤ 2000 ∧ ks.length ≤ 200 ∧ (k = kDir ∨ k = kLink ∨ k = kFile)) ∧ PutOks ks
def PutOks : List (ByteArray × Lt) → Prop
  | [] => True
  | (n, t) :: r => n.size ≤ 12 ∧ PutOk t ∧ PutOks r
end
theorem putoks_get : ∀ {ks : List (ByteArray × Lt)}, PutOks ks → ∀ i (h : i < ks.length), ks[i].1.size ≤ 12 ∧ PutOk ks[i].2
  | (n, t) :: r, h, 0, _ => by rw [PutOks] at h; exact ⟨h.1, h.2.1⟩
  | (n, t) :: r, h, i + 1, hi => by rw [PutOks] at h; exact putoks_get h.2.2 i (by simpa using hi)
mutual
theorem putok_of : ∀ (t : Lt) (d : Nat) (p : ByteArray), (∀ x ∈ pre p d t, x.deep ≤ 8 ∧ ownE x.n = 0) → t.sz ≤ 200 → PutOk t
  | .mk k da e u ks, d, p, h, hs => by
    have h0 := h ⟨p, d, .mk k da e u ks⟩ (by rw [pre_cons]; simp)
    simp only at h0
    obtain ⟨o1, o2, o3⟩ := own_fit h0.2
    simp only [Tr.kind, Tr.data, Tr.exec, Tr.kids] at o1 o2 o3
    have hsz := Tr.sz_kids (Tr.mk k da e u ks)
    simp only [Tr.kids] at hsz
    have hl := szs_len ks
    have hF : PutOks ks := putoks_of ks (d + 1) p (fun x hx => h x (by rw [pre_cons]; simp only [Tr.kids]; exact List.mem_cons_of_mem _ hx)) (by omega) (fun x hx => name_size (List.all_eq_true.1 o3 x hx))
    rw [PutOk]
    refine ⟨⟨o1, by omega, ?_⟩, hF⟩
    rcases o2 with ⟨a1, _⟩ | ⟨a1, _⟩ | ⟨a1, _⟩
    · exact .inl a1
    · exact .inr (.inl a1)
    · exact .inr (.inr a1)
theorem putoks_of : ∀ (ks : List (ByteArray × Lt)) (d : Nat) (p : ByteArray), (∀ x ∈ pres p d ks, x.deep ≤ 8 ∧ ownE x.n = 0) → Tr.szs ks ≤ 200 → (∀ x ∈ ks.map (·.1), x.size ≤ 12) → PutOks ks
  | [], d, p, h, hs, hn => by rw [PutOks]; trivial
  | (n, t) :: r, d, p, h, hs, hn => by
    rw [Tr.szs] at hs
    rw [pres] at h
    have h1 := hn n (by simp)
    rw [PutOks]
    exact ⟨h1, putok_of t d (sub p n) (fun x hx => h x (List.mem_append_left _ hx)) (by omega), putoks_of r d p (fun x hx => h x (List.mem_append_right _ hx)) (by omega) (fun x hx => hn x (by simp only [List.map_cons, List.mem_cons]; exact .inr hx))⟩
end
theorem dec_len3 (n : Nat) (h : n ≤ 200) : (Lib.decDigits n).length ≤ 7 := dec_len n (by omega)
mutual
theorem text_len : ∀ t : Lt, PutOk t → (textL t).length + 22 ≤ 2040 * t.sz
  | .mk k d e v ks, h => by
    rw [PutOk] at h
    obtain ⟨⟨h1, h2, _⟩, h4⟩ := h
    have hk := texts_len ks h4
    have hsz := Tr.sz_kids (Tr.mk k d e v ks)
    simp only [Tr.kids] at hsz
    have hd := dec_len3 ks.length h2
    have hc := cnt_len d.data.toList (by rw [size_toList]; omega)
    rw [size_toList] at hc
    rw [textL, hsz]
    split
    · simp only [List.length_cons, List.length_append]; omega
    · simp only [List.length_cons]; omega
theorem texts_len : ∀ ks : List (ByteArray × Lt), PutOks ks → (textsL ks).length ≤ 2040 * Tr.szs ks
  | [], _ => by simp [textsL]
  | (n, t) :: r, h => by
    rw [PutOks] at h
    have h1 := text_len t h.2.1
    have h2 := texts_len r h.2.2
    have hc := cnt_len n.data.toList (by rw [size_toList]; omega)
    rw [size_toList] at hc
    rw [textsL, Tr.szs, List.length_append, List.length_append]
    omega
end
theorem texts_app : ∀ a c : List (ByteArray × Lt), textsL (a ++ c) = textsL a ++ textsL c
  | [], c => by simp [textsL]
  | (n, t) :: r, c => by rw [List.cons_append, textsL, textsL, texts_app r c]; simp only [List.append_assoc]
theorem texts_succ (ks : List (ByteArray × Lt)) {k : Nat} (hk : k < ks.length) : textsL (ks.take (k + 1)) = textsL (ks.take k) ++ (cnt ks[k].1.data.toList ++ textL ks[k].2) := by
  rw [List.take_succ_eq_append_getElem hk, texts_app]
  congr 1
  obtain ⟨n, t⟩ := ks[k]
  simp [textsL]
theorem texts_take (ks : List (ByteArray × Lt)) (k : Nat) : (textsL (ks.take k)).length ≤ (textsL ks).length := by
  have := texts_app (ks.take k) (ks.drop k)
  rw [List.take_append_drop] at this
  rw [this, List.length_append]
  omega

/-- put is right for trees of so many nodes. -/
def PtH (w0 : World) (b m : Nat) : Prop := ∀ (t : Lt) (bs : List UInt8) (w : World), t.sz ≤ m → PutOk t → t.Ok w0 → Below w0.heap.size w0 w → Lib.IsBuilder 75 5 w0.heap.size b (Lib.strCells (bstr bs)) w → bs.length + (textL t).length ≤ 100000000 →
  Calls Tryd.prog 27 #[.pointer (some ⟨b, 0, none⟩), nval t] w (PtPost w0 b bs t w)

set_option maxRecDepth 100000 in
set_option maxHeartbeats 40000000 in
theorem put_dir (w0 : World) (hT : TEnv w0) (b m : Nat) (ih : PtH w0 b m) (da : ByteArray) (ex : Bool) (v : Value) (ks : List (ByteArray × Lt)) (bs : List UInt8) (w : World) (ht : (Tr.mk kDir da ex v ks : Lt).Ok w0) (hb : Below w0.heap.size w0 w) (hI : Lib.IsBuilder 75 5 w0.heap.size b (Lib.strCells (bstr bs)) w)
    (hks : ∀ i (h : i < ks.length), ks[i].2.sz ≤ m) (hok : PutOks ks) (hkl : ks.length ≤ 200) (hlen : bs.length + (textL (Tr.mk kDir da ex v ks : Lt)).length ≤ 100000000) :
    Calls Tryd.prog 27 #[.pointer (some ⟨b, 0, none⟩), .agg #[.string ⟨#[100, 105, 114]⟩, .string da, .bool ex, v]] w (PtPost w0 b bs (.mk kDir da ex v ks) w) := by
  obtain ⟨a, cap, hv⟩ := ht.shape
  simp only [Tr.v, Tr.kids] at hv
  subst hv
  have hle := ht.le
  simp only [Tr.kids] at hle
  obtain ⟨P, hP⟩ : ∃ P, bs ++ (100 :: (Lib.decDigits ks.length ++ [58])) = P := ⟨_, rfl⟩
  have hTX : ∀ l : List UInt8, bs ++ 100 :: (Lib.decDigits ks.length ++ 58 :: l) = P ++ l := fun l => by rw [← hP]; simp
  have hlen2 : P.length + (textsL ks).length ≤ 100000000 := by
    have := congrArg List.length (hTX (textsL ks))
    rw [textL, if_pos rfl] at hlen
    simp only [List.length_append] at this hlen ⊢
    omega
  have HTX : Hid (bs ++ textL (Tr.mk kDir da ex (.slice a ks.length cap) ks : Lt) = P ++ textsL ks) := hidd (by rw [textL, if_pos rfl, hTX])
  have hB1 : Below w.heap.size w (w.alloc (.cells #[.string ⟨#[100, 105, 114]⟩, .string da, .bool ex, .slice a ks.length cap] 24)) := (Below.refl _ _).alloc (Nat.le_refl _) _
  have hbx := Blk.new w [.string ⟨#[100, 105, 114]⟩, .string da, .bool ex, .slice a ks.length cap] 24
  have hit := Lib.itoa_nonneg ks.length
  have hdl := dec_len ks.length (by omega)
  obtain ⟨D, hD⟩ : ∃ D : ByteArray, (⟨(Lib.itoa (ks.length : Int)).toArray⟩ : ByteArray) = D := ⟨_, rfl⟩
  have hDs : D.size ≤ 7 := by rw [← size_toList, ← hD, hit]; exact hdl
  have hbl : bs.length ≤ P.length := by rw [← hP]; simp
  have HE : Hid (Lib.strCells (bstr bs) ++ Lib.strCells ((⟨#[100]⟩ : ByteArray) ++ D ++ ⟨#[58]⟩) = Lib.strCells (bstr P)) := hidd (by
    rw [show (⟨#[100]⟩ : ByteArray) ++ D ++ ⟨#[58]⟩ = bstr (100 :: (Lib.decDigits ks.length ++ [58])) from ba_ext (by rw [bstr_list, ← hD, hit]; simp), sc_app, hP])
  have HC := hidd (itoa_any (ks.length : Int) (w.alloc (.cells #[.string ⟨#[100, 105, 114]⟩, .string da, .bool ex, .slice a ks.length cap] 24)) (by omega) (by omega) ((hT.low hb).low hB1).tab)
  rw [hD] at HC
  have HI := hidd (isb_ob hI hB1)
  have h1 : ¬ (9223372036854775807 < 1 + D.size) := by omega
  have h2 : ¬ (9223372036854775807 < 1 + D.size + 1) := by omega
  clear hI hit hD hdl hlen hTX hP
  go_enter Tryd.func27, Tryd.ntmps27
  go_wp2_with fail
  refine HC.out.mono ?_
  rintro e w2 ⟨rfl, hb2⟩
  have HI2 := isb_ob HI.out hb2
  have hB2 := hB1.trans (hb2.mono hB1.size)
  have hl : (Lib.strCells (bstr bs)).length = bs.length := by rw [scells, List.length_map]
  have HW := hidd (wstr_kp w0.heap.size b _ ((⟨#[100]⟩ : ByteArray) ++ D ++ ⟨#[58]⟩) w2 HI2 (by rw [hl, ByteArray.size_append, ByteArray.size_append]; have : (⟨#[100]⟩ : ByteArray).size = 1 := rfl; have : (⟨#[58]⟩ : ByteArray).size = 1 := rfl; omega) (Nat.le_trans hb.size hB2.size))
  have hbx2 := hbx.below hb2 hbx.lt
  clear HI HI2 hl HC hbx
  go_wp2_with fail
  refine HW.out.mono ?_
  rintro e w3 ⟨rfl, h3, hb3, hk3⟩
  rw [HE.out] at h3
  have hbx3 := hk3 _ _ _ (by decide) (by decide) hbx2
  have x3 := hbx3.cell (i := 3) rfl
  have hB3 : Below w0.heap.size w w3 := (hB2.mono hb.size).trans hb3
  have hK3 : Kp w w3 := (Kp.below hB2).trans hk3
  clear hbx2 hb2 hB1 hB2 HW HE hb3 hk3 hbx3
  go_wp2_with fail
  go_loopw [27] (fun v wr => ∃ k : Nat, k ≤ ks.length ∧ v = .int .i64 (k : Int) ∧ Lib.BuilderAt 75 5 w0.heap.size b (.pointer (some ⟨b, 0, none⟩)) (Lib.strCells (bstr (P ++ textsL (ks.take k)))) wr ∧ Below w0.heap.size w wr ∧ Kp w wr) (fun v _ => ks.length - (intOf v).toNat)
  case atStart => exact ⟨0, Nat.zero_le _, rfl, by simpa [textsL] using h3, hB3, hK3⟩
  case round =>
    obtain ⟨k, hk, rfl, hbr, hBr, hKr⟩ := hrel
    by_cases hlt : k < ks.length
    · have hks' := hks k hlt
      obtain ⟨hnx, hok'⟩ := putoks_get hok k hlt
      have hkk : Tr.Ok w0 ks[k].2 := ht.get hlt
      have hbw := hb.trans hBr
      have htr := ht.ob hbw
      obtain ⟨xa, xc, hxv⟩ := hkk.shape
      obtain ⟨b1, o1, rfl, hb1, a0, a1, a2, a3, a4⟩ := htr.at5 rfl hlt
      simp only [Tr.kids] at a0 a1 a2 a3 a4
      have hst := texts_succ ks hlt
      have htk := texts_take ks (k + 1)
      have p1 : (0 : Int) ≤ (k : Int) := by omega
      have p2 : (k : Int) < (ks.length : Int) := by omega
      have HBR := hidd hbr
      clear hbr htr
      obtain ⟨L, hL⟩ : ∃ L, P ++ textsL (ks.take k) = L := ⟨_, rfl⟩
      obtain ⟨L2, hL2⟩ : ∃ L2, P ++ textsL (ks.take (k + 1)) = L2 := ⟨_, rfl⟩
      have hLn : L2.length ≤ 100000000 := by rw [← hL2, List.length_append]; omega
      have hst2 : L ++ (cnt ks[k].1.data.toList ++ textL ks[k].2) = L2 := by rw [← hL, ← hL2, hst, List.append_assoc]
      have HL2 := hidd hL2
      rw [hL] at HBR
      clear hL hL2 hst htk
      generalize ks[k] = x at *
      obtain ⟨nx, ⟨kx, dx, ex', vx, ksx⟩⟩ := x
      simp only [Tr.kind, Tr.data, Tr.exec, Tr.v, Tr.kids] at a0 a1 a2 a3 a4 hxv
      simp only at hnx hst2 hok' hkk hks'
      subst hxv
      have hB4 : Below wr.heap.size wr (wr.alloc (.cells #[.string nx, .string kx, .string dx, .bool ex', .slice xa ksx.length xc] 48)) := (Below.refl _ _).alloc (Nat.le_refl _) _
      have hby := Blk.new wr [.string nx, .string kx, .string dx, .bool ex', .slice xa ksx.length xc] 48
      have hC := cnt_any nx (wr.alloc (.cells #[.string nx, .string kx, .string dx, .bool ex', .slice xa ksx.length xc] 48)) (by omega) ((hT.low hbw).low hB4)
      obtain ⟨Y, hY⟩ : ∃ Y, cnt nx.data.toList = Y := ⟨_, rfl⟩
      rw [hY] at hst2 hC
      have hYl : L.length + Y.length + (textL (Tr.mk kx dx ex' (.slice xa ksx.length xc) ksx : Lt)).length ≤ 100000000 := by
        have := congrArg List.length hst2
        simp only [List.length_append] at this
        omega
      have HST := hidd hst2
      have HC := hidd hC
      clear hC hY hst2
      go_wp2_with fail
      refine HC.out.mono ?_
      rintro e w4 ⟨rfl, hb4⟩
      have hB5 := hB4.trans (hb4.mono hB4.size)
      have hl : (Lib.strCells (bstr L)).length = L.length := by rw [scells, List.length_map]
      have hl2 : (bstr Y).size = Y.length := by rw [← size_toList, bstr_list]
      have HW := hidd (wstr_kp w0.heap.size b _ (bstr Y) w4 (isb_ob (.inr HBR.out) hB5) (by rw [hl, hl2]; omega) (Nat.le_trans hbw.size hB5.size))
      have hby4 := hby.below hb4 hby.lt
      clear hl HC hby HBR hb4 hB4
      generalize hXe : bstr Y = X at *
      go_wp2_with fail
      refine HW.out.mono ?_
      rintro e w5 ⟨rfl, h5, hb5, hk5⟩
      rw [← hXe, sc_app] at h5
      have hby5 := hk5 _ _ _ (by decide) (by decide) hby4
      have y1 := hby5.cell (i := 1) rfl
      have y2 := hby5.cell (i := 2) rfl
      have y3 := hby5.cell (i := 3) rfl
      have y4 := hby5.cell (i := 4) rfl
      have hB6 : Below w0.heap.size wr w5 := (hB5.mono hbw.size).trans hb5
      have hK6 : Kp wr w5 := (Kp.below hB5).trans hk5
      have HP := hidd (ih _ (L ++ Y) w5 hks' hok' hkk (hbw.trans hB6) (.inr h5) (by rw [List.length_append]; omega))
      unfold nval at HP
      simp only [Tr.kind, Tr.data, Tr.exec, Tr.v] at HP
      have hB7 := hBr.trans hB6
      have hK7 := hKr.trans hK6
      clear hby4 hby5 hb5 hk5 h5 hB5 hB6 hK6 HW hBr hKr
      go_wp2_with fail
      refine HP.out.mono ?_
      rintro e w6 ⟨rfl, h6, hb6, hk6⟩
      rw [List.append_assoc, HST.out] at h6
      have H6 := hidd h6
      clear h6 HP
      go_wp2_with fail
      go_roundw
      case rel => exact ⟨k + 1, hlt, by go_num, by rw [HL2.out]; exact H6.out, hB7.trans hb6, hK7.trans hk6⟩
      case measure => simp [intOf]; omega
    · have hkl : k = ks.length := by omega
      have HF := hidd hbr
      rw [hkl, List.take_of_length_le (Nat.le_refl _), ← HTX.out] at HF
      clear hbr hkl
      go_wp2_with fail
      go_end0
      exact ⟨rfl, HF.out, hBr, hKr⟩

theorem leaf_kids {k d : ByteArray} {e : Bool} {v : Value} {ks : List (ByteArray × Lt)} (h : ¬ k = kDir) : textL (Tr.mk k d e v ks : Lt) = textL (Tr.mk k d e v [] : Lt) := by rw [textL, textL, if_neg h, if_neg h]
theorem put_step (w0 : World) (hT : TEnv w0) (b m : Nat) (ih : PtH w0 b m) : PtH w0 b (m + 1) := by
  intro t bs w hm hok ht hb hI hlen
  obtain ⟨k, da, ex, v, ks⟩ := t
  have hok2 := hok
  rw [PutOk] at hok2
  obtain ⟨⟨hd, hkl, hk⟩, hoks⟩ := hok2
  unfold nval
  simp only [Tr.kind, Tr.data, Tr.exec, Tr.v]
  have hbs : bs.length ≤ 100000000 := by omega
  rcases hk with rfl | rfl | rfl
  · exact put_dir w0 hT b m ih da ex v ks bs w ht hb hI (fun i h => by have := Tr.sz_lt (t := (Tr.mk kDir da ex v ks : Lt)) (List.getElem_mem h); omega) hoks hkl hlen
  · have := put_link w0 hT b bs da ex v w hb hI hd hbs
    unfold PtPost at this ⊢
    rwa [show textL (Tr.mk kLink da ex v ks : Lt) = textL (Tr.mk kLink da ex v [] : Lt) from leaf_kids (by decide)]
  · have hx : textL (Tr.mk kFile da ex v ks : Lt) = textL (Tr.mk kFile da ex v [] : Lt) := leaf_kids (by decide)
    cases ex
    · have := put_file w0 hT b bs da v w hb hI hd hbs
      unfold PtPost at this ⊢
      rwa [hx]
    · have := put_exec w0 hT b bs da v w hb hI hd hbs
      unfold PtPost at this ⊢
      rwa [hx]
theorem put_h (w0 : World) (hT : TEnv w0) (b : Nat) : ∀ m, PtH w0 b m
  | 0 => fun t bs w hm => by have := Tr.sz_kids t; omega
  | m + 1 => put_step w0 hT b m (put_h w0 hT b m)
/-- put, of a right tree. -/
theorem put_any (w0 : World) (hT : TEnv w0) (b : Nat) (t : Lt) (bs : List UInt8) (w : World) (h : treeE t = 0) (ht : t.Ok w0) (hb : Below w0.heap.size w0 w) (hI : Lib.IsBuilder 75 5 w0.heap.size b (Lib.strCells (bstr bs)) w) (hlen : bs.length ≤ 1000) :
    Calls Tryd.prog 27 #[.pointer (some ⟨b, 0, none⟩), nval t] w (PtPost w0 b bs t w) := by
  obtain ⟨h1, h2⟩ := scan_zero (show scan 0 (pre ⟨#[]⟩ 0 t) = 0 from h)
  have hs : t.sz ≤ 200 := by
    have := h2 (by rw [pre_cons]; simp)
    rw [pre_len] at this
    omega
  have hok := putok_of t 0 _ h1 hs
  have hl := text_len t hok
  exact put_h w0 hT b t.sz t bs w (Nat.le_refl _) hok ht hb hI (by omega)
end Go.Proofs.YtoaedkinlnkkhaaDoor
