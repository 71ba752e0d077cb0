/- The contracts of pack.Number, the reader's number and counted, and counted. Condition: the reader is there, the library's tables read as listed. -/
import Derived.Test.YtoaedkinlnkkhaaDoorPkP
import Derived.Test.YtoaedkinlnkkhaaDoorNu
import Derived.Test.YtoaedkinlnkkhaaDoorSl
namespace Go.Proofs.YtoaedkinlnkkhaaDoor
open Go.RowKit

/-- What Number says. -/
def PnPost (s : ByteArray) (w : World) (e : Ending) (w' : World) : Prop :=
  (∃ (v : Int) (q : Bool), e = .returned (.tuple #[.int .i64 v, .bool q]) ∧ q = decide (0 ≤ numOf 6 s.data.toList) ∧ (q = true → v = numOf 6 s.data.toList)) ∧ Below w.heap.size w w'

set_option maxRecDepth 100000 in
set_option maxHeartbeats 4000000 in
theorem pnum_any (s : ByteArray) (w : World) (hs : s.size ≤ 4000000) (hT : TEnv w) :
    Calls Tryd.prog 71 #[.string s] w (PnPost s w) := by
  have hsz := size_toList s
  go_enter Tryd.func71, Tryd.ntmps71
  go_wp2_with fail
  refine (atoi_any s _ (by omega) hT).mono ?_
  rintro e w2 ⟨⟨v, ev, rfl, v0, v1, hor⟩, hb2⟩
  have hT2 := hT.low hb2
  rcases hor with ⟨hat, rfl⟩ | ⟨hno, t, p, rfl⟩
  · obtain ⟨hiff, hval⟩ := num_ok hat
    have HVal := hidd hval
    by_cases h6 : s.size ≤ 6
    · have y : decide ((s.size : Int) ≤ 6) = true := decide_eq_true (by omega)
      have y' : decide (s.size ≤ 6) = true := decide_eq_true (by omega)
      by_cases h0 : 0 ≤ v
      · have z : decide (0 ≤ v) = true := decide_eq_true h0
        obtain ⟨I, hI⟩ : ∃ I : ByteArray, (⟨(Lib.itoa v).toArray⟩ : ByteArray) = I := ⟨_, rfl⟩
        have hI2 : Lib.itoa v = I.data.toList := by rw [← hI]
        have HIT := hidd hI
        cases hi : I.toList == s.toList
        · have HF : Hid (false = decide (0 ≤ numOf 6 s.data.toList)) := hidd (by
            symm
            apply decide_eq_false
            intro h
            have h3 := (hiff.1 h).2.2
            rw [hI2, ← Lib.toList_data, ← Lib.toList_data] at h3
            rw [h3] at hi
            simp at hi)
          clear hat hiff hval hI hI2 hsz
          go_wp2_with fail
          refine (itoa_any _ _ (by omega) (by omega) hT2.tab).mono ?_
          rintro e w3 ⟨rfl, hb3⟩
          rw [HIT.out]
          have hB3 := hb2.trans (hb3.mono hb2.size)
          clear hb2 hb3 hT2
          go_wp2_with fail
          go_ret2
          exact ⟨⟨_, _, rfl, HF.out, fun h => by cases h⟩, hB3⟩
        · have hID : Lib.itoa v = s.data.toList := by
            rw [hI2, ← Lib.toList_data, ← Lib.toList_data]
            simpa using hi
          have hpos := hiff.2 ⟨by omega, h0, hID⟩
          have HF : Hid (true = decide (0 ≤ numOf 6 s.data.toList)) := hidd (decide_eq_true hpos).symm
          have HQ : Hid (v = numOf 6 s.data.toList) := hidd (hval hpos).symm
          clear hat hiff hval hI hI2 hsz hID hpos
          go_wp2_with fail
          refine (itoa_any _ _ (by omega) (by omega) hT2.tab).mono ?_
          rintro e w3 ⟨rfl, hb3⟩
          rw [HIT.out]
          have hB3 := hb2.trans (hb3.mono hb2.size)
          clear hb2 hb3 hT2
          go_wp2_with fail
          go_ret2
          exact ⟨⟨_, _, rfl, HF.out, fun _ => HQ.out⟩, hB3⟩
      · have z : decide (0 ≤ v) = false := decide_eq_false h0
        have HF : Hid (false = decide (0 ≤ numOf 6 s.data.toList)) := hidd (decide_eq_false (fun h => h0 (hiff.1 h).2.1)).symm
        clear hat hiff hval hsz
        go_wp2_with fail
        go_ret2
        exact ⟨⟨_, _, rfl, HF.out, fun h => by cases h⟩, hb2⟩
    · have y : decide ((s.size : Int) ≤ 6) = false := decide_eq_false (by omega)
      have y' : decide (s.size ≤ 6) = false := decide_eq_false (by omega)
      have HF : Hid (false = decide (0 ≤ numOf 6 s.data.toList)) := hidd (decide_eq_false (fun h => h6 (by have := (hiff.1 h).1; omega))).symm
      clear hat hiff hval hsz
      go_wp2_with fail
      go_ret2
      exact ⟨⟨_, _, rfl, HF.out, fun h => by cases h⟩, hb2⟩
  · have HF : Hid (false = decide (0 ≤ numOf 6 s.data.toList)) := hidd (decide_eq_false (num_err hno)).symm
    clear hno hsz
    go_wp2_with fail
    go_ret2
    exact ⟨⟨_, _, rfl, HF.out, fun h => by cases h⟩, hb2⟩

theorem keep_rec {w W W' : World} {p : Nat} {v : Value} (hp : p < w.heap.size) (h1 : W.cell? ⟨p, 0, none⟩ = some v) (h2 : Below w.heap.size w W) (hb : Below W.heap.size W W') : W'.cell? ⟨p, 0, none⟩ = some v ∧ Below w.heap.size w W' :=
  ⟨by rw [hb.cell (show p < W.heap.size from Nat.lt_of_lt_of_le hp h2.size)]; exact h1, h2.trans (hb.mono h2.size)⟩

theorem ob_of_fr {w0 w w1 : World} {p : Nat} (hB : Below w0.heap.size w0 w) (hp : w0.heap.size ≤ p) (hf : Fr (fun b => b = p) w w1) : Below w0.heap.size w0 w1 :=
  hB.trans (hf.below hB.size (fun i hi => by omega))

/-- A reader. -/
def RdAt (w : World) (p : Nat) (S : ByteArray) (c : Nat) : Prop := Blk w p [.string S, .int .i64 (c : Int)] 80
def bstr (l : List UInt8) : ByteArray := ⟨l.toArray⟩
theorem bstr_list (l : List UInt8) : (bstr l).data.toList = l := rfl
theorem bstr_self (s : ByteArray) : bstr s.data.toList = s := ba_ext rfl

/-- What a reader's number says and leaves. -/
def RnPost (p : Nat) (S : ByteArray) (c : Nat) (w : World) (e : Ending) (w' : World) : Prop :=
  ((numP S.data.toList = none ∧ e = .returned (.tuple #[.int .i64 0, .bool false]) ∧ RdAt w' p S c) ∨
   (∃ n r, numP S.data.toList = some (n, r) ∧ e = .returned (.tuple #[.int .i64 (n : Int), .bool true]) ∧ RdAt w' p (bstr r) c)) ∧ Fr (fun b => b = p) w w'

set_option maxRecDepth 100000 in
set_option maxHeartbeats 4000000 in
theorem rnum_any (p c : Nat) (S : ByteArray) (w0 w : World) (h : RdAt w p S c) (hT : TEnv w0) (hB : Below w0.heap.size w0 w) (hs : S.size ≤ 4000000) :
    Calls Tryd.prog 58 #[.pointer (some ⟨p, 0, none⟩)] w (RnPost p S c w) := by
  obtain ⟨M, hM⟩ : ∃ M : ByteArray, S.extract 0 (min S.size 7) = M := ⟨_, rfl⟩
  have hMl : M.data.toList = S.data.toList.take 7 := by
    rw [← hM, Lib.extract_from_zero]
    have := size_toList S
    rcases Nat.le_total S.size 7 with h | h
    · rw [Nat.min_eq_left h, List.take_of_length_le (by omega), List.take_of_length_le (by omega)]
    · rw [Nat.min_eq_right h]
  obtain ⟨D, R, is, hc⟩ : ∃ D R : ByteArray, ∃ is, Lib.cut M.data.toList [58] = (D.data.toList, R.data.toList, is) := ⟨⟨(Lib.cut M.data.toList [58]).1.toArray⟩, ⟨(Lib.cut M.data.toList [58]).2.1.toArray⟩, (Lib.cut M.data.toList [58]).2.2, by simp⟩
  have hMs : M.size ≤ 7 := by rw [← size_toList, hMl]; simp; omega
  have hDs : D.size ≤ 7 ∧ (is = true → D.size + 1 ≤ S.size) := by
    rw [← size_toList D, ← size_toList S]
    have h1 : M.data.toList.length ≤ 7 := by rw [size_toList]; exact hMs
    rcases cut_cases M.data.toList with h | ⟨d, r, hb, h⟩
    · rw [h] at hc; simp only [Prod.mk.injEq] at hc; rw [← hc.1, ← hc.2.2]; exact ⟨h1, fun h => by cases h⟩
    · rw [h] at hc; simp only [Prod.mk.injEq] at hc; rw [← hc.1]
      have h2 := congrArg List.length hb
      rw [hMl, List.length_take, List.length_append, List.length_cons] at h2
      constructor
      · omega
      · intro _; omega
  obtain ⟨hD7, hDS⟩ := hDs
  have c0 := h.cell (i := 0) rfl
  have HC := hidd hc
  have hbd : Below w.heap.size w w.drew := (Below.refl _ w).drew
  have hpw := h.lt
  have c0 : w.drew.cell? ⟨p, 0, none⟩ = some (.string S) := c0
  have HML := hidd hMl
  clear hc hMl
  have hK : ∃ K : Nat, min S.size 7 = K ∧ min (S.size : Int) 7 = (K : Int) ∧ K ≤ S.size ∧ K ≤ 7 ∧ (if (S.size : Int) ≤ 7 then (S.size : Int) else 7) = (K : Int) := by
    rcases Nat.le_total S.size 7 with h | h
    · exact ⟨S.size, by omega, by omega, by omega, by omega, by rw [if_pos (by omega)]⟩
    · exact ⟨7, by omega, by omega, by omega, by omega, by split <;> omega⟩
  obtain ⟨K, hK1, hK2, hK3, hK4, hK5⟩ := hK
  rw [hK1] at hM
  have q1 : (0 : Int) ≤ (K : Int) := by omega
  have q2 : (K : Int) ≤ (S.size : Int) := by omega
  have HK1 := hidd hK1
  clear hK1
  go_enter Tryd.func58, Tryd.ntmps58
  go_wp2_with fail
  go_region_held3 (fun W => W.cell? ⟨p, 0, none⟩ = some (.string S) ∧ Below w.heap.size w W)
    (first | exact ⟨c0, hbd⟩ | exact keep_rec hpw (by assumption) (by assumption) hb')
    ((go_at_call 70; refine (cut_any M _ (by omega) (hT.low (hB.trans (Below.mono (by assumption) hB.size))) D R is HC.out).mono ?_; rintro e w' ⟨rfl, hb'⟩))
  have hb' : Below w.heap.size w w' := hbd.trans (hb'.mono (Nat.le_refl _))
  have h1 : RdAt w' p S c := Blk.below (B := w.heap.size) h hb' hpw
  have hf1 : Fr (fun b => b = p) w w' := Fr.ob hb'
  have hT1 : TEnv w' := hT.low (hB.trans (Below.mono hb' hB.size))
  clear hb' hbd c0 h hM
  go_wp2_with fail
  refine (pnum_any D _ (by omega) hT1).mono ?_
  rintro e w2 ⟨⟨v, q, rfl, hq, hv⟩, hb2⟩
  have hpw1 := h1.lt
  have h2 : RdAt w2 p S c := Blk.below h1 hb2 hpw1
  have hf2 := hf1.trans (Fr.ob hb2)
  have HV := hidd hv
  clear hv hb2 h1 hf1 hT1
  cases is
  · have HN : Hid (numP S.data.toList = none) := hidd (numP_none (by rw [← HML.out]; exact HC.out) (.inl rfl))
    clear hq
    cases q
    all_goals
      go_wp2_with fail
      go_ret2
      exact ⟨.inl ⟨HN.out, rfl, h2⟩, hf2⟩
  · have hDS' := hDS rfl
    cases q
    · have HN : Hid (numP S.data.toList = none) := hidd (numP_none (by rw [← HML.out]; exact HC.out) (.inr (of_decide_eq_false hq.symm)))
      clear hq hDS hDS'
      go_wp2_with fail
      go_ret2
      exact ⟨.inl ⟨HN.out, rfl, h2⟩, hf2⟩
    · have h0 := of_decide_eq_true hq.symm
      have HN : Hid (numP S.data.toList = some (v.toNat, S.data.toList.drop (D.size + 1))) := hidd (by rw [HV.out rfl, ← size_toList]; exact numP_some (by rw [← HML.out]; exact HC.out) h0)
      have h0v : 0 ≤ v := by rw [HV.out rfl]; exact h0
      obtain ⟨n, rfl⟩ := Int.eq_ofNat_of_zero_le h0v
      have d0 := h2.cell (i := 0) rfl
      have z0 := h2.frozen 0
      obtain ⟨X, hX⟩ : ∃ X, S.extract (D.size + 1) S.size = X := ⟨_, rfl⟩
      have HX : Hid (X = bstr (S.data.toList.drop (D.size + 1))) := hidd (by
        rw [← hX]
        apply ba_ext
        rw [bstr_list, Lib.extract_data, List.take_of_length_le]
        simp)
      have p1 : (0 : Int) ≤ (D.size : Int) + 1 := by omega
      have p2 : (D.size : Int) + 1 ≤ (S.size : Int) := by omega
      have p3 : IntKind.i64.wrap ((D.size : Int) + 1) = (D.size : Int) + 1 := i64_in _ (by omega)
      have HS := hidd h2
      have HF := hidd hf2
      clear hq hDS hDS' h0 h2 hf2
      go_wp2_with fail
      go_ret2
      exact ⟨.inr ⟨n, _, HN.out, rfl, by rw [← HX.out]; exact HS.out.set 0 _⟩, HF.out.setCell (p := ⟨p, 0, none⟩) (.inl rfl) _⟩

/-- What a reader's counted says and leaves. -/
def RcPost (p : Nat) (S : ByteArray) (c : Nat) (w : World) (e : Ending) (w' : World) : Prop :=
  ((countedP S.data.toList = none ∧ e = .returned (.tuple #[.string ⟨#[]⟩, .bool false])) ∨
   (∃ s r, countedP S.data.toList = some (s, r) ∧ e = .returned (.tuple #[.string s, .bool true]) ∧ RdAt w' p (bstr r) c)) ∧ Fr (fun b => b = p) w w'

theorem countedP_none {l : List UInt8} (h : numP l = none) : countedP l = none := by unfold countedP; rw [h]
theorem countedP_big {l r : List UInt8} {n : Nat} (h : numP l = some (n, r)) (hn : r.length < n) : countedP l = none := by unfold countedP; rw [h]; simp only; rw [if_neg (by omega)]
theorem countedP_some {l r : List UInt8} {n : Nat} (h : numP l = some (n, r)) (hn : n ≤ r.length) : countedP l = some (bstr (r.take n), r.drop n) := by unfold countedP; rw [h]; simp only; rw [if_pos hn]; rfl

set_option maxRecDepth 100000 in
set_option maxHeartbeats 4000000 in
theorem rcnt_any (p c : Nat) (S : ByteArray) (w0 w : World) (h : RdAt w p S c) (hT : TEnv w0) (hB : Below w0.heap.size w0 w) (hs : S.size ≤ 4000000) :
    Calls Tryd.prog 42 #[.pointer (some ⟨p, 0, none⟩)] w (RcPost p S c w) := by
  have HC := hidd (rnum_any p c S w0 w h hT hB hs)
  clear h hT
  go_enter Tryd.func42, Tryd.ntmps42
  go_wp2_with fail
  refine HC.out.mono ?_
  rintro e w1 ⟨⟨hn, rfl, h1⟩ | ⟨n, r, hn, rfl, h1⟩, hf1⟩
  · have HN := hidd (countedP_none hn)
    clear hn h1
    go_wp2_with fail
    go_ret2
    exact ⟨.inl ⟨HN.out, rfl⟩, hf1⟩
  · obtain ⟨n9, hrl, -⟩ := numP_lt hn
    rw [size_toList] at hrl
    have hX : (bstr r).size = r.length := by rw [← size_toList, bstr_list]
    have HR := hidd (bstr_list r)
    obtain ⟨X, hXe⟩ : ∃ X, bstr r = X := ⟨_, rfl⟩
    rw [hXe] at hX h1 HR
    have d0 := h1.cell (i := 0) rfl
    have z0 := h1.frozen 0
    by_cases hlt : X.size < n
    · have y : decide ((X.size : Int) < (n : Int)) = true := decide_eq_true (by omega)
      have y' : decide (X.size < n) = true := decide_eq_true hlt
      have HN := hidd (countedP_big hn (by omega))
      clear hn h1 hXe
      go_wp2_with fail
      go_ret2
      exact ⟨.inl ⟨HN.out, rfl⟩, hf1⟩
    · have y : decide ((X.size : Int) < (n : Int)) = false := decide_eq_false (by omega)
      have y' : decide (X.size < n) = false := decide_eq_false hlt
      have HN := hidd (countedP_some hn (by omega))
      obtain ⟨A, hA⟩ : ∃ A, X.extract 0 n = A := ⟨_, rfl⟩
      obtain ⟨B, hBe⟩ : ∃ B, X.extract n X.size = B := ⟨_, rfl⟩
      have HA : Hid (A = bstr (r.take n)) := hidd (by
        rw [← hA]; apply ba_ext; rw [bstr_list, Lib.extract_from_zero, HR.out])
      have HBe : Hid (B = bstr (r.drop n)) := hidd (by
        rw [← hBe]; apply ba_ext; rw [bstr_list, Lib.extract_data, HR.out, List.take_of_length_le]; rw [List.length_drop]; omega)
      have p1 : (0 : Int) ≤ (n : Int) := by omega
      have p2 : (n : Int) ≤ (X.size : Int) := by omega
      have HS := hidd h1
      have HF := hidd hf1
      clear hn h1 hf1 hX hXe hrl
      go_wp2_with fail
      go_ret2
      exact ⟨.inr ⟨A, r.drop n, by rw [HA.out]; exact HN.out, rfl, by rw [← HBe.out]; exact HS.out.set 0 _⟩, HF.out.setCell (p := ⟨p, 0, none⟩) (.inl rfl) _⟩

/-- Counted text. -/
def cnt (s : List UInt8) : List UInt8 := Lib.decDigits s.length ++ 58 :: s
theorem cnt_any (s : ByteArray) (w : World) (hs : s.size ≤ 9999999) (hT : TEnv w) :
    Calls Tryd.prog 40 #[.string s] w fun e w' => e = .returned (.string (bstr (cnt s.data.toList))) ∧ Below w.heap.size w w' := by
  have hl := dec_len s.size (by omega)
  have hit := Lib.itoa_nonneg s.size
  obtain ⟨D, hD⟩ : ∃ D : ByteArray, (⟨(Lib.itoa (s.size : Int)).toArray⟩ : ByteArray) = D := ⟨_, rfl⟩
  have hDs : D.size ≤ 7 := by rw [← size_toList, ← hD, hit]; exact hl
  have HE : Hid (D ++ ⟨#[58]⟩ ++ s = bstr (cnt s.data.toList)) := hidd (ba_ext (by rw [bstr_list, ← hD, hit, cnt, size_toList]; simp))
  have HD := hidd hD
  have h1 : ¬ (9223372036854775807 < D.size + 1) := by omega
  have h2 : ¬ (9223372036854775807 < D.size + 1 + s.size) := by omega
  clear hD hit hl
  go_enter Tryd.func40, Tryd.ntmps40
  go_wp2_with fail
  refine (itoa_any _ _ (by omega) (by omega) hT.tab).mono ?_
  rintro e w1 ⟨rfl, hb1⟩
  rw [HD.out]
  go_wp2_with fail
  go_ret
  exact ⟨ret_str HE.out, hb1⟩
end Go.Proofs.YtoaedkinlnkkhaaDoor
