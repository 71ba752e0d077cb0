/- The contract of the document's textOf. Condition: the tree is there. -/
import Derived.Test.YtoaedkinlnkkhaaGreatDoorPkA
import Derived.Test.YtoaedkinlnkkhaaGreatDoorRb
namespace Go.Proofs.YtoaedkinlnkkhaaGreatDoor
open Go.RowKit

/-- What textOf answers. -/
def TxPost (t : Lt) (w : World) (e : Ending) (w' : World) : Prop := e = .returned (.string (bstr (textL t))) ∧ Below w.heap.size w w'
theorem tx_ret {a b : ByteArray} {t : Lt} {w w' : World} (h : a = b) (hb : b = bstr (textL t)) (hB : Below w.heap.size w w') : TxPost t w (.returned (.string a)) w' := ⟨by rw [h, hb], hB⟩

set_option maxRecDepth 100000 in
set_option maxHeartbeats 4000000 in
theorem tx_link (da : ByteArray) (ex : Bool) (v : Value) (w : World) (hd : da.size ≤ 2000) :
    Calls Tryz.prog 38 #[.agg #[.string ⟨#[108, 105, 110, 107]⟩, .string da, .bool ex, v]] w (TxPost (.mk kLink da ex v []) w) := by
  have hbx := Blk.new w [.string ⟨#[108, 105, 110, 107]⟩, .string da, .bool ex, v] 24
  have hB1 : Below w.heap.size w (w.alloc (.cells #[.string ⟨#[108, 105, 110, 107]⟩, .string da, .bool ex, v] 24)) := (Below.refl _ _).alloc (Nat.le_refl _) _
  have hdl := dec_len da.size (by omega)
  obtain ⟨D, hD⟩ : ∃ D : ByteArray, (⟨(Lib.decDigits da.size).toArray⟩ : ByteArray) = D := ⟨_, rfl⟩
  have hDs : D.size ≤ 7 := by rw [← size_toList, ← hD]; exact hdl
  have HX : Hid ((⟨#[108]⟩ : ByteArray) ++ D ++ ⟨#[58]⟩ ++ da = bstr (textL (.mk kLink da ex v [] : Lt))) := hidd (by
    rw [textL, if_neg (by decide), if_pos rfl, ← hD]; exact ba_ext (by rw [bstr_list, cnt, size_toList]; simp))
  have HD := hidd (fun W => decimal_any da.size W (by omega))
  rw [hD] at HD
  have HC : Hid (∀ W, Below (w.alloc (.cells #[.string ⟨#[108, 105, 110, 107]⟩, .string da, .bool ex, v] 24)).heap.size (w.alloc (.cells #[.string ⟨#[108, 105, 110, 107]⟩, .string da, .bool ex, v] 24)) W → W.cell? ⟨w.heap.size, 1, none⟩ = some (.string da) ∧ Below w.heap.size w W) := hidd (fun W hW => ⟨(hbx.below hW hbx.lt).cell (i := 1) rfl, hB1.trans (hW.mono hB1.size)⟩)
  have c0 := hbx.cell (i := 0) rfl
  have c2 := hbx.cell (i := 2) rfl
  have m1 : ¬ (9223372036854775807 < 1 + D.size) := by omega
  have m2 : ¬ (9223372036854775807 < 1 + D.size + 1) := by omega
  have m3 : ¬ (9223372036854775807 < 1 + D.size + 1 + da.size) := by omega
  clear hD hdl hbx
  go_enter Tryz.func38, Tryz.ntmps38
  go_upto_region 2 with fail
  generalize hw1 : w.alloc (.cells #[.string ⟨#[108, 105, 110, 107]⟩, .string da, .bool ex, v] 24) = w1 at *
  first
    | (go_region_held3 (fun W => W.cell? ⟨w.heap.size, 1, none⟩ = some (.string da) ∧ Below w.heap.size w W)
        (first | exact HC.out _ ((Below.refl _ w1).drew) | exact HC.out _ (((Below.refl _ w1).drew).trans hb9))
        (first | (go_at_call 59; (with_reducible refine (HD.out _).mono ?_); rintro e w9 ⟨rfl, hb9⟩)))
    | fail
  all_goals
    go_wp2_with fail
    go_ret
    exact tx_ret rfl HX.out (HC.out _ (((Below.refl _ w1).drew).trans hb9)).2

set_option maxRecDepth 100000 in
set_option maxHeartbeats 4000000 in
theorem tx_exec (da : ByteArray) (v : Value) (w : World) (hd : da.size ≤ 2000) :
    Calls Tryz.prog 38 #[.agg #[.string ⟨#[102, 105, 108, 101]⟩, .string da, .bool true, v]] w (TxPost (.mk kFile da true v []) w) := by
  have hbx := Blk.new w [.string ⟨#[102, 105, 108, 101]⟩, .string da, .bool true, v] 24
  have hB1 : Below w.heap.size w (w.alloc (.cells #[.string ⟨#[102, 105, 108, 101]⟩, .string da, .bool true, v] 24)) := (Below.refl _ _).alloc (Nat.le_refl _) _
  have hdl := dec_len da.size (by omega)
  obtain ⟨D, hD⟩ : ∃ D : ByteArray, (⟨(Lib.decDigits da.size).toArray⟩ : ByteArray) = D := ⟨_, rfl⟩
  have hDs : D.size ≤ 7 := by rw [← size_toList, ← hD]; exact hdl
  have HX : Hid ((⟨#[120]⟩ : ByteArray) ++ D ++ ⟨#[58]⟩ ++ da = bstr (textL (.mk kFile da true v [] : Lt))) := hidd (by
    rw [textL, if_neg (by decide), if_neg (by decide), if_pos rfl, ← hD]; exact ba_ext (by rw [bstr_list, cnt, size_toList]; simp))
  have HD := hidd (fun W => decimal_any da.size W (by omega))
  rw [hD] at HD
  have HC : Hid (∀ W, Below (w.alloc (.cells #[.string ⟨#[102, 105, 108, 101]⟩, .string da, .bool true, v] 24)).heap.size (w.alloc (.cells #[.string ⟨#[102, 105, 108, 101]⟩, .string da, .bool true, v] 24)) W → W.cell? ⟨w.heap.size, 1, none⟩ = some (.string da) ∧ Below w.heap.size w W) := hidd (fun W hW => ⟨(hbx.below hW hbx.lt).cell (i := 1) rfl, hB1.trans (hW.mono hB1.size)⟩)
  have c0 := hbx.cell (i := 0) rfl
  have c2 := hbx.cell (i := 2) rfl
  have m1 : ¬ (9223372036854775807 < 1 + D.size) := by omega
  have m2 : ¬ (9223372036854775807 < 1 + D.size + 1) := by omega
  have m3 : ¬ (9223372036854775807 < 1 + D.size + 1 + da.size) := by omega
  clear hD hdl hbx
  go_enter Tryz.func38, Tryz.ntmps38
  go_upto_region 7 with fail
  generalize hw1 : w.alloc (.cells #[.string ⟨#[102, 105, 108, 101]⟩, .string da, .bool true, v] 24) = w1 at *
  first
    | (go_region_held3 (fun W => W.cell? ⟨w.heap.size, 1, none⟩ = some (.string da) ∧ Below w.heap.size w W)
        (first | exact HC.out _ ((Below.refl _ w1).drew) | exact HC.out _ (((Below.refl _ w1).drew).trans hb9))
        (first | (go_at_call 59; (with_reducible refine (HD.out _).mono ?_); rintro e w9 ⟨rfl, hb9⟩)))
    | fail
  all_goals
    go_wp2_with fail
    go_ret
    exact tx_ret rfl HX.out (HC.out _ (((Below.refl _ w1).drew).trans hb9)).2

set_option maxRecDepth 100000 in
set_option maxHeartbeats 4000000 in
theorem tx_file (da : ByteArray) (v : Value) (w : World) (hd : da.size ≤ 2000) :
    Calls Tryz.prog 38 #[.agg #[.string ⟨#[102, 105, 108, 101]⟩, .string da, .bool false, v]] w (TxPost (.mk kFile da false v []) w) := by
  have hbx := Blk.new w [.string ⟨#[102, 105, 108, 101]⟩, .string da, .bool false, v] 24
  have hB1 : Below w.heap.size w (w.alloc (.cells #[.string ⟨#[102, 105, 108, 101]⟩, .string da, .bool false, v] 24)) := (Below.refl _ _).alloc (Nat.le_refl _) _
  have hdl := dec_len da.size (by omega)
  obtain ⟨D, hD⟩ : ∃ D : ByteArray, (⟨(Lib.decDigits da.size).toArray⟩ : ByteArray) = D := ⟨_, rfl⟩
  have hDs : D.size ≤ 7 := by rw [← size_toList, ← hD]; exact hdl
  have HX : Hid ((⟨#[102]⟩ : ByteArray) ++ D ++ ⟨#[58]⟩ ++ da = bstr (textL (.mk kFile da false v [] : Lt))) := hidd (by
    rw [textL, if_neg (by decide), if_neg (by decide), if_neg (by decide), ← hD]; exact ba_ext (by rw [bstr_list, cnt, size_toList]; simp))
  have HD := hidd (fun W => decimal_any da.size W (by omega))
  rw [hD] at HD
  have HC : Hid (∀ W, Below (w.alloc (.cells #[.string ⟨#[102, 105, 108, 101]⟩, .string da, .bool false, v] 24)).heap.size (w.alloc (.cells #[.string ⟨#[102, 105, 108, 101]⟩, .string da, .bool false, v] 24)) W → W.cell? ⟨w.heap.size, 1, none⟩ = some (.string da) ∧ Below w.heap.size w W) := hidd (fun W hW => ⟨(hbx.below hW hbx.lt).cell (i := 1) rfl, hB1.trans (hW.mono hB1.size)⟩)
  have c0 := hbx.cell (i := 0) rfl
  have c2 := hbx.cell (i := 2) rfl
  have m1 : ¬ (9223372036854775807 < 1 + D.size) := by omega
  have m2 : ¬ (9223372036854775807 < 1 + D.size + 1) := by omega
  have m3 : ¬ (9223372036854775807 < 1 + D.size + 1 + da.size) := by omega
  clear hD hdl hbx
  go_enter Tryz.func38, Tryz.ntmps38
  go_upto_region 7 with fail
  generalize hw1 : w.alloc (.cells #[.string ⟨#[102, 105, 108, 101]⟩, .string da, .bool false, v] 24) = w1 at *
  first
    | (go_region_held3 (fun W => W.cell? ⟨w.heap.size, 1, none⟩ = some (.string da) ∧ Below w.heap.size w W)
        (first | exact HC.out _ ((Below.refl _ w1).drew) | exact HC.out _ (((Below.refl _ w1).drew).trans hb9))
        (first | (go_at_call 59; (with_reducible refine (HD.out _).mono ?_); rintro e w9 ⟨rfl, hb9⟩)))
    | fail
  all_goals
    go_wp2_with fail
    go_ret
    exact tx_ret rfl HX.out (HC.out _ (((Below.refl _ w1).drew).trans hb9)).2

theorem below_step {w0 W W' : World} (h : Below w0.heap.size w0 W) (hb : Below W.heap.size W W') : Below w0.heap.size w0 W' := h.trans (hb.mono h.size)
/-- textOf is right for trees of so many nodes. -/
def TxH (m : Nat) : Prop := ∀ (t : Lt) (w : World), t.sz ≤ m → PutOk t → t.Ok w → (textL t).length ≤ 1000000 → Calls Tryz.prog 38 #[nval t] w (TxPost t w)

set_option maxRecDepth 100000 in
set_option maxHeartbeats 40000000 in
theorem tx_dir (m : Nat) (ih : TxH m) (da : ByteArray) (ex : Bool) (v : Value) (ks : List (ByteArray × Lt)) (w : World) (ht : (Tr.mk kDir da ex v ks : Lt).Ok w) (hks : ∀ i (h : i < ks.length), ks[i].2.sz ≤ m) (hok : PutOks ks) (hkl : ks.length ≤ 200) (hlen : (textL (Tr.mk kDir da ex v ks : Lt)).length ≤ 1000000) :
    Calls Tryz.prog 38 #[.agg #[.string ⟨#[100, 105, 114]⟩, .string da, .bool ex, v]] w (TxPost (.mk kDir da ex v ks) w) := by
  obtain ⟨a, cap, hv⟩ := ht.shape
  simp only [Tr.v, Tr.kids] at hv
  subst hv
  have hle := ht.le
  simp only [Tr.kids] at hle
  obtain ⟨P, hP⟩ : ∃ P, 100 :: (Lib.decDigits ks.length ++ [58]) = P := ⟨_, rfl⟩
  have hTX : ∀ l : List UInt8, 100 :: (Lib.decDigits ks.length ++ 58 :: l) = P ++ l := fun l => by rw [← hP]; simp
  have hlen2 : P.length + (textsL ks).length ≤ 1000000 := by
    have := congrArg List.length (hTX (textsL ks))
    rw [textL, if_pos rfl] at hlen
    simp only [List.length_append] at this
    omega
  have HTX : Hid (textL (Tr.mk kDir da ex (.slice a ks.length cap) ks : Lt) = P ++ textsL ks) := hidd (by rw [textL, if_pos rfl, hTX])
  have hB1 : Below w.heap.size w (w.alloc (.cells #[.string ⟨#[100, 105, 114]⟩, .string da, .bool ex, .slice a ks.length cap] 24)) := (Below.refl _ _).alloc (Nat.le_refl _) _
  have hbx := Blk.new w [.string ⟨#[100, 105, 114]⟩, .string da, .bool ex, .slice a ks.length cap] 24
  have ht1 := ht.ob hB1
  have hdl := dec_len ks.length (by omega)
  obtain ⟨D, hD⟩ : ∃ D : ByteArray, (⟨(Lib.decDigits ks.length).toArray⟩ : ByteArray) = D := ⟨_, rfl⟩
  have hDs : D.size ≤ 7 := by rw [← size_toList, ← hD]; exact hdl
  have HE : Hid ((⟨#[100]⟩ : ByteArray) ++ D ++ ⟨#[58]⟩ = bstr P) := hidd (by rw [← hP, ← hD]; exact ba_ext (by rw [bstr_list]; simp))
  have HD := hidd (fun W => decimal_any ks.length W (by omega))
  rw [hD] at HD
  have c0 := hbx.cell (i := 0) rfl
  have c3 := hbx.cell (i := 3) rfl
  have m1 : ¬ (9223372036854775807 < 1 + D.size) := by omega
  have m2 : ¬ (9223372036854775807 < 1 + D.size + 1) := by omega
  clear hD hdl hlen hTX hP ht
  go_enter Tryz.func38, Tryz.ntmps38
  go_upto_region 8 with fail
  generalize w.alloc (.cells #[.string ⟨#[100, 105, 114]⟩, .string da, .bool ex, .slice a ks.length cap] 24) = w1 at *
  go_wp2_with fail
  refine (HD.out _).mono ?_
  rintro e w2 ⟨rfl, hb2⟩
  have HC3 : Hid (∀ W, Below w1.heap.size w1 W → W.cell? ⟨w.heap.size, 3, none⟩ = some (.slice a ks.length cap)) := hidd (fun W hW => (hbx.below hW hbx.lt).cell (i := 3) rfl)
  have HT1 := hidd ht1
  clear c0 c3 hbx ht1 HD
  go_wp2_with fail
  rw [HE.out]
  go_loopw [4, 5] (fun vx vi wr => ∃ k : Nat, k ≤ ks.length ∧ vx = .string (bstr (P ++ textsL (ks.take k))) ∧ vi = .int .i64 (k : Int) ∧ Below w1.heap.size w1 wr) (fun _ vi _ => ks.length - (intOf vi).toNat)
  case atStart => exact ⟨0, Nat.zero_le _, by simp [textsL], rfl, hb2⟩
  case round =>
    obtain ⟨k, hk, rfl, rfl, hBr⟩ := hrel
    have c3 := HC3.out _ hBr
    by_cases hlt : k < ks.length
    · have hks' := hks k hlt
      obtain ⟨hnx, hok'⟩ := putoks_get hok k hlt
      have htr := HT1.out.ob hBr
      have hkk : Tr.Ok wr ks[k].2 := htr.get hlt
      obtain ⟨xa, xc, hxv⟩ := hkk.shape
      obtain ⟨b1, o1, rfl, hb1, a0, a1, a2, a3, a4⟩ := htr.at5 rfl hlt
      simp only [Tr.kids] at a0 a1 a2 a3 a4
      have hst := texts_succ ks hlt
      have htk := texts_take ks (k + 1)
      have p1 : (0 : Int) ≤ (k : Int) := by omega
      have p2 : (k : Int) < (ks.length : Int) := by omega
      clear htr
      obtain ⟨L, hL⟩ : ∃ L, P ++ textsL (ks.take k) = L := ⟨_, rfl⟩
      obtain ⟨L2, hL2⟩ : ∃ L2, P ++ textsL (ks.take (k + 1)) = L2 := ⟨_, rfl⟩
      have hLn : L2.length ≤ 1000000 := by rw [← hL2, List.length_append]; omega
      have hst2 : L ++ (cnt ks[k].1.data.toList ++ textL ks[k].2) = L2 := by rw [← hL, ← hL2, hst, List.append_assoc]
      have HL2 := hidd hL2
      rw [hL]
      clear hL hL2 hst htk
      generalize ks[k] = x at *
      obtain ⟨nx, ⟨kx, dx, ex', vx, ksx⟩⟩ := x
      simp only [Tr.kind, Tr.data, Tr.exec, Tr.v, Tr.kids] at a0 a1 a2 a3 a4 hxv
      simp only at hnx hst2 hok' hkk hks'
      subst hxv
      have hDl := dec_len nx.size (by omega)
      obtain ⟨D2, hD2⟩ : ∃ D : ByteArray, (⟨(Lib.decDigits nx.size).toArray⟩ : ByteArray) = D := ⟨_, rfl⟩
      have hDs2 : D2.size ≤ 7 := by rw [← size_toList, ← hD2]; exact hDl
      have HD2 := hidd (fun W => decimal_any nx.size W (by omega))
      rw [hD2] at HD2
      obtain ⟨K, hK⟩ : ∃ K, bstr (textL (Tr.mk kx dx ex' (.slice xa ksx.length xc) ksx : Lt)) = K := ⟨_, rfl⟩
      obtain ⟨X, hX⟩ : ∃ X, bstr L = X := ⟨_, rfl⟩
      have hXs : X.size = L.length := by rw [← hX, ← size_toList, bstr_list]
      have hKs : K.size = (textL (Tr.mk kx dx ex' (.slice xa ksx.length xc) ksx : Lt)).length := by rw [← hK, ← size_toList, bstr_list]
      have hXK : X.size + K.size ≤ 1000000 := by
        have := congrArg List.length hst2
        simp only [List.length_append] at this
        omega
      have HFIN : Hid (X ++ D2 ++ ⟨#[58]⟩ ++ nx ++ K = bstr L2) := hidd (by
        rw [← hst2, ← hX, ← hD2, ← hK]; exact ba_ext (by simp [bstr, cnt]))
      have HTK := hidd (fun W (hW : Below wr.heap.size wr W) => ih _ W hks' hok' (hkk.ob hW) (by omega))
      unfold nval TxPost at HTK
      simp only [Tr.kind, Tr.data, Tr.exec, Tr.v, hK] at HTK
      have HS : Hid (∀ W, Below wr.heap.size wr W → W.cell? ⟨w.heap.size, 3, none⟩ = some (.slice (some ⟨b1, o1, none⟩) ks.length cap) ∧ W.cell? ⟨b1, o1 + k * 5, none⟩ = some (.string nx) ∧ W.cell? ⟨b1, o1 + k * 5 + 1, none⟩ = some (.string kx) ∧ W.cell? ⟨b1, o1 + k * 5 + 2, none⟩ = some (.string dx) ∧ W.cell? ⟨b1, o1 + k * 5 + 3, none⟩ = some (.bool ex') ∧ W.cell? ⟨b1, o1 + k * 5 + 4, none⟩ = some (.slice xa ksx.length xc)) := hidd (fun W hW =>
        ⟨HC3.out _ (below_step hBr hW), (hW.cell (p := ⟨b1, _, none⟩) hb1).trans a0, (hW.cell (p := ⟨b1, _, none⟩) hb1).trans a1, (hW.cell (p := ⟨b1, _, none⟩) hb1).trans a2, (hW.cell (p := ⟨b1, _, none⟩) hb1).trans a3, (hW.cell (p := ⟨b1, _, none⟩) hb1).trans a4⟩)
      have n1 : ¬ (9223372036854775807 < X.size + D2.size) := by omega
      have n2 : ¬ (9223372036854775807 < X.size + D2.size + 1) := by omega
      have n3 : ¬ (9223372036854775807 < X.size + D2.size + 1 + nx.size) := by omega
      have n4 : ¬ (9223372036854775807 < X.size + D2.size + 1 + nx.size + K.size) := by omega
      rw [hX]
      clear hX hXs hKs hst2 hD2 hDl hK hkk a0 a1 a2 a3 a4 hb1 hok' hks'
      go_upto_region 12 with fail
      have hd0 : Below wr.heap.size wr wr.drew := (Below.refl _ wr).drew
      first
        | (go_region_held3 (fun W => W.cell? ⟨w.heap.size, 3, none⟩ = some (.slice (some ⟨b1, o1, none⟩) ks.length cap) ∧ W.cell? ⟨b1, o1 + k * 5, none⟩ = some (.string nx) ∧ W.cell? ⟨b1, o1 + k * 5 + 1, none⟩ = some (.string kx) ∧ W.cell? ⟨b1, o1 + k * 5 + 2, none⟩ = some (.string dx) ∧ W.cell? ⟨b1, o1 + k * 5 + 3, none⟩ = some (.bool ex') ∧ W.cell? ⟨b1, o1 + k * 5 + 4, none⟩ = some (.slice xa ksx.length xc))
            (first | exact HS.out _ (by assumption))
            (first
              | (go_at_call 59; (with_reducible refine (HD2.out _).mono ?_); rintro e w9 ⟨rfl, hb9⟩; have hq := below_step (w0 := wr) (by assumption) hb9)
              | (go_at_call 38; (with_reducible refine (HTK.out _ (by assumption)).mono ?_); rintro e w8 ⟨rfl, hb8⟩; have hq8 := below_step (w0 := wr) (by assumption) hb8)))
        | fail
      all_goals
        rw [HFIN.out]
        have hB9 := below_step hBr hq8
        clear hq8
        go_wp2_with fail
        go_roundw
        case rel => exact ⟨k + 1, hlt, by rw [HL2.out], by go_num, hB9⟩
        case measure => simp [intOf]; omega
    · have hkl : k = ks.length := by omega
      have HF := HTX.out
      rw [hkl, List.take_of_length_le (Nat.le_refl _)]
      have hB2 := hB1.trans (hBr.mono hB1.size)
      obtain ⟨X, hX⟩ : ∃ X, bstr (P ++ textsL ks) = X := ⟨_, rfl⟩
      rw [hX]
      have HX : Hid (X = bstr (textL (Tr.mk kDir da ex (.slice a ks.length cap) ks : Lt))) := hidd (by rw [← hX, HF])
      clear hkl hX HF
      go_wp2_with fail
      go_ret
      exact tx_ret rfl HX.out hB2
theorem tx_h : ∀ m, TxH m
  | 0 => fun t w hm => by have := Tr.sz_kids t; omega
  | m + 1 => by
    intro t w hm hok ht hlen
    obtain ⟨k, da, ex, v, ks⟩ := t
    have hok2 := hok
    rw [PutOk] at hok2
    obtain ⟨⟨hd, hkl, hk⟩, hoks⟩ := hok2
    unfold nval
    simp only [Tr.kind, Tr.data, Tr.exec, Tr.v]
    rcases hk with rfl | rfl | rfl
    · exact tx_dir m (tx_h m) da ex v ks w ht (fun i h => by have := Tr.sz_lt (t := (Tr.mk kDir da ex v ks : Lt)) (List.getElem_mem h); omega) hoks hkl hlen
    · have := tx_link da ex v w hd
      unfold TxPost at this ⊢
      rwa [show textL (Tr.mk kLink da ex v ks : Lt) = textL (Tr.mk kLink da ex v [] : Lt) from leaf_kids (by decide)]
    · have hx : textL (Tr.mk kFile da ex v ks : Lt) = textL (Tr.mk kFile da ex v [] : Lt) := leaf_kids (by decide)
      cases ex
      · have := tx_file da v w hd
        unfold TxPost at this ⊢
        rwa [hx]
      · have := tx_exec da v w hd
        unfold TxPost at this ⊢
        rwa [hx]
/-- textOf, of a right tree. -/
theorem tx_any (t : Lt) (w : World) (h : treeE t = 0) (ht : t.Ok w) : Calls Tryz.prog 38 #[nval t] w (TxPost t w) := by
  obtain ⟨h1, h2⟩ := scan_zero (show scan 0 (pre ⟨#[]⟩ 0 t) = 0 from h)
  have hs : t.sz ≤ 200 := by
    have := h2 (by rw [pre_cons]; simp)
    rw [pre_len] at this
    omega
  have hok := putok_of t 0 _ h1 hs
  have hl := text_len t hok
  exact tx_h t.sz t w (Nat.le_refl _) hok ht (by omega)

end Go.Proofs.YtoaedkinlnkkhaaGreatDoor
