/- The contracts of the document's headOf, bytes and node. Condition: the reading is there. -/
import Derived.Test.YtoaedkinlnkkhaaGreatDoorPk2
import Derived.Test.YtoaedkinlnkkhaaGreatDoorNf
namespace Go.Proofs.YtoaedkinlnkkhaaGreatDoor
open Go.RowKit

/-- What headOf says at a place. -/
def HdPost (S : ByteArray) (at_ : Nat) (w : World) (e : Ending) (w' : World) : Prop :=
  (match numP (S.data.toList.drop at_) with
   | none => ∃ b : Int, e = .returned (.tuple #[.int .i64 (-1), .int .i64 b])
   | some (n, r) => ∃ b : Nat, e = .returned (.tuple #[.int .i64 (n : Int), .int .i64 (b : Int)]) ∧ b ≤ S.size ∧ S.data.toList.drop b = r) ∧ w' = w

theorem hd_none {S : ByteArray} {at_ : Nat} {w : World} {b : Int} (h : numP (S.data.toList.drop at_) = none) : HdPost S at_ w (.returned (.tuple #[.int .i64 (-1), .int .i64 b])) w := by
  unfold HdPost; rw [h]; exact ⟨⟨b, rfl⟩, rfl⟩

theorem numP_nocolon {l : List UInt8} (h : ∀ c ∈ l.take 7, c ≠ 58) : numP l = none := by
  rcases cut_cases (l.take 7) with hc | ⟨d, r, hb, hc⟩
  · exact numP_none (D := l.take 7) (R := []) (is := false) (by rw [hc]) (.inl rfl)
  · exact absurd rfl (h 58 (by rw [hb]; simp))
theorem numP_colon {l D r : List UInt8} (hl : l = D ++ 58 :: r) (hd : ∀ c ∈ D, c ≠ 58) (h7 : D.length < 7) : numP l = if 0 ≤ numOf 6 D then some ((numOf 6 D).toNat, r) else none := by
  have ht : l.take 7 = D ++ 58 :: r.take (6 - D.length) := by
    rw [hl, List.take_append, List.take_of_length_le (by omega), show 7 - D.length = 6 - D.length + 1 by omega, List.take_succ_cons]
  have hc : Lib.cut (l.take 7) [58] = (D, r.take (6 - D.length), true) := by rw [ht]; exact cut_colon D _ hd
  have hdr : l.drop (D.length + 1) = r := by
    rw [hl, ← List.drop_drop, List.drop_left]; rfl
  split
  · rename_i h
    rw [numP_some hc h, hdr]
  · rename_i h
    exact numP_none hc (.inr h)

set_option maxRecDepth 100000 in
set_option maxHeartbeats 4000000 in
theorem head_any (S : ByteArray) (at_ : Nat) (w : World) (hs : S.size ≤ 4000000) (ha : at_ ≤ S.size) :
    Calls Tryz.prog 63 #[.string S, .int .i64 (at_ : Int)] w (HdPost S at_ w) := by
  have hsz := size_toList S
  go_enter Tryz.func63, Tryz.ntmps63
  go_wp2_with fail
  go_loop [6] (fun i => ∃ k : Nat, at_ ≤ k ∧ k ≤ at_ + 7 ∧ k ≤ S.size ∧ i = .int .i64 (k : Int) ∧ ∀ c ∈ (S.data.toList.drop at_).take (k - at_), c ≠ 58) (fun i => S.size - (intOf i).toNat)
  case atStart => exact ⟨at_, Nat.le_refl _, by omega, ha, rfl, by simp⟩
  case round =>
    obtain ⟨k, hk1, hk7, hk2, rfl, hno⟩ := hrel
    have p1 : (0 : Int) ≤ (k : Int) := by omega
    have g1 : IntKind.i64.wrap ((at_ : Int) + 7) = (at_ : Int) + 7 := i64_in _ (by omega)
    have g2 : IntKind.i64.wrap ((k : Int) + 1) = (k : Int) + 1 := i64_in _ (by omega)
    have pa : (0 : Int) ≤ (at_ : Int) := by omega
    have pb : (at_ : Int) ≤ (k : Int) := by omega
    have pc : (k : Int) ≤ (S.size : Int) := by omega
    have hdl : (S.data.toList.drop at_).length = S.size - at_ := by rw [List.length_drop]; omega
    by_cases hlt : k < S.size
    · have p2 : (k : Int) < (S.size : Int) := by omega
      have p3 : decide ((k : Int) < (S.size : Int)) = true := decide_eq_true p2
      have p3' : decide (k < S.size) = true := decide_eq_true hlt
      have p4 : decide ((S.size : Int) ≤ (k : Int)) = false := decide_eq_false (by omega)
      have p4' : decide (S.size ≤ k) = false := decide_eq_false (by omega)
      obtain ⟨y, hy⟩ : ∃ y, S[k] = y := ⟨_, rfl⟩
      have hyl : S.data.toList[k]'(by omega) = y := hy
      have hk' : S.data.toList.drop k = y :: S.data.toList.drop (k + 1) := by rw [List.drop_eq_getElem_cons (l := S.data.toList) (i := k) (by omega), hyl]
      have hte : S.data.toList.drop at_ = (S.data.toList.drop at_).take (k - at_) ++ y :: S.data.toList.drop (k + 1) := by
        conv => lhs; rw [← List.take_append_drop (k - at_) (S.data.toList.drop at_)]
        rw [List.drop_drop, show at_ + (k - at_) = k by omega, hk']
      obtain ⟨D, hD⟩ : ∃ D : ByteArray, S.extract at_ k = D := ⟨_, rfl⟩
      have hDl : D.data.toList = (S.data.toList.drop at_).take (k - at_) := by rw [← hD, Lib.extract_data]
      have hDs : D.size = k - at_ := by rw [← size_toList, hDl, List.length_take, hdl]; omega
      have HD := hidd hD
      by_cases h58 : y = 58
      · subst h58
        have e1 : (S[k].toNat : Int) = 58 := by rw [hy]; rfl
        rw [← hDl] at hno hte
        have hks : D.size ≤ 9223372036854775807 := by omega
        have HA := hidd (numberOf_any D 6 w (by omega) hks)
        have hVc := numOf_lt 6 D.data.toList
        by_cases h7 : k < at_ + 7
        · have p5 : decide ((k : Int) < (at_ : Int) + 7) = true := decide_eq_true (by omega)
          have p5' : decide (k < at_ + 7) = true := decide_eq_true h7
          have HP := hidd (numP_colon hte hno (by rw [size_toList]; omega))
          obtain ⟨V, hV⟩ : ∃ V, numOf 6 D.data.toList = V := ⟨_, rfl⟩
          rw [hV] at HA HP hVc
          clear hno hte hV hDl hDs hyl hk' hdl hsz hD hy
          go_wp2_with fail
          rw [HD.out]
          refine HA.out.mono ?_
          rintro e W1 ⟨rfl, rfl⟩
          go_wp2_with fail
          go_ret2
          by_cases h0 : 0 ≤ V
          · obtain ⟨n, rfl⟩ := Int.eq_ofNat_of_zero_le h0
            have HP2 := HP.out.trans (if_pos h0)
            unfold HdPost
            rw [HP2]
            exact ⟨⟨k + 1, rfl, by omega, rfl⟩, rfl⟩
          · obtain rfl : V = -1 := by omega
            exact hd_none (HP.out.trans (if_neg h0))
        · have p5 : decide ((k : Int) < (at_ : Int) + 7) = false := decide_eq_false (by omega)
          have p5' : decide (k < at_ + 7) = false := decide_eq_false h7
          have HV : numOf 6 D.data.toList = -1 := numOf_short (.inr (.inl (by rw [size_toList]; omega)))
          rw [HV] at HA
          have HP := hidd (numP_nocolon (l := S.data.toList.drop at_) (by rw [show 7 = k - at_ by omega, ← hDl]; exact hno))
          clear hno hte hDl hDs hyl hk' hdl hsz hD hVc HV hy
          go_wp2_with fail
          rw [HD.out]
          refine HA.out.mono ?_
          rintro e W1 ⟨rfl, rfl⟩
          go_wp2_with fail
          go_ret2
          exact hd_none HP.out
      · have e1 : ((y.toNat : Int) == 58) = false := u8_ne h58
        have e2 : ((y.toNat : Int) != 58) = true := by rw [bne, e1]; rfl
        by_cases h7 : k < at_ + 7
        · have p5 : decide ((k : Int) < (at_ : Int) + 7) = true := decide_eq_true (by omega)
          have p5' : decide (k < at_ + 7) = true := decide_eq_true h7
          have HNO : Hid (∀ c ∈ (S.data.toList.drop at_).take (k + 1 - at_), c ≠ 58) := hidd (by
            rw [show k + 1 - at_ = k - at_ + 1 by omega, List.take_succ_eq_append_getElem (by omega)]
            intro c hc
            rcases List.mem_append.1 hc with h | h
            · exact hno c h
            · simp only [List.mem_cons, List.not_mem_nil, or_false] at h
              rw [List.getElem_drop] at h
              subst h
              simp only [show at_ + (k - at_) = k by omega]
              rw [hyl]
              exact h58)
          clear hno hte hDl hDs hyl hk' hdl hsz hD h58
          go_wp2_with fail
          go_round
          case rel => exact ⟨k + 1, by omega, by omega, by omega, by go_num, HNO.out⟩
          case measure => simp [intOf]; omega
        · have p5 : decide ((k : Int) < (at_ : Int) + 7) = false := decide_eq_false (by omega)
          have p5' : decide (k < at_ + 7) = false := decide_eq_false h7
          have HP := hidd (numP_nocolon (l := S.data.toList.drop at_) (by rw [show 7 = k - at_ by omega]; exact hno))
          clear hno hte hDl hDs hyl hk' hdl hsz hD h58
          go_wp2_with fail
          go_ret2
          exact hd_none HP.out
    · have p3 : decide ((k : Int) < (S.size : Int)) = false := decide_eq_false (by omega)
      have p3' : decide (k < S.size) = false := decide_eq_false (by omega)
      have p4 : decide ((S.size : Int) ≤ (k : Int)) = true := decide_eq_true (by omega)
      have p4' : decide (S.size ≤ k) = true := decide_eq_true (by omega)
      have HP := hidd (numP_nocolon (l := S.data.toList.drop at_) (by
        intro c hc
        refine hno c ?_
        rw [List.take_of_length_le (by omega)]
        exact List.mem_of_mem_take hc))
      clear hno hsz hdl
      go_wp2_with fail
      go_ret2
      exact hd_none HP.out

theorem head_no (S : ByteArray) (at_ : Nat) (w : World) (hs : S.size ≤ 4000000) (ha : at_ ≤ S.size) (h : numP (S.data.toList.drop at_) = none) :
    Calls Tryz.prog 63 #[.string S, .int .i64 (at_ : Int)] w fun e w' => (∃ b : Int, e = .returned (.tuple #[.int .i64 (-1), .int .i64 b])) ∧ w' = w :=
  (head_any S at_ w hs ha).mono fun e w' hh => by
    obtain ⟨h1, h2⟩ := hh
    rw [h] at h1
    exact ⟨h1, h2⟩
theorem head_is (S : ByteArray) (at_ : Nat) (hs : S.size ≤ 4000000) (ha : at_ ≤ S.size) {n : Nat} {r : List UInt8} (h : numP (S.data.toList.drop at_) = some (n, r)) :
    ∃ b : Nat, b ≤ S.size ∧ S.data.toList.drop b = r ∧ ∀ w, Calls Tryz.prog 63 #[.string S, .int .i64 (at_ : Int)] w fun e w' => e = .returned (.tuple #[.int .i64 (n : Int), .int .i64 (b : Int)]) ∧ w' = w := by
  refine ⟨S.size - r.length, by omega, ?_, fun w => (head_any S at_ w hs ha).mono fun e w' hh => ?_⟩
  · obtain ⟨-, hl, k, hk, h1, h2⟩ := numP_lt h
    rw [List.drop_drop] at hk
    rw [List.length_drop, size_toList] at h2
    have hr : r.length = S.size - (at_ + k) := by rw [hk, List.length_drop, size_toList]
    rw [hk, show S.size - (S.data.toList.drop (at_ + k)).length = at_ + k by rw [← hk, hr]; omega]
  · obtain ⟨h1, h2⟩ := hh
    rw [h] at h1
    obtain ⟨b, rfl, hb, hd⟩ := h1
    have hr : r.length = S.size - b := by rw [← hd, List.length_drop, size_toList]
    rw [show S.size - r.length = b by omega]
    exact ⟨rfl, h2⟩

/-- A reading. -/
def RgAt (w : World) (p : Nat) (S : ByteArray) (a c : Nat) : Prop := Blk w p [.string S, .int .i64 (a : Int), .int .i64 (c : Int)] 93
/-- What a reading's bytes says and leaves. -/
def BtPost (p : Nat) (S : ByteArray) (a c : Nat) (w : World) (e : Ending) (w' : World) : Prop :=
  ((countedP (S.data.toList.drop a) = none ∧ e = .returned (.tuple #[.string ⟨#[]⟩, .bool false])) ∨
   (∃ s r b, countedP (S.data.toList.drop a) = some (s, r) ∧ b ≤ S.size ∧ S.data.toList.drop b = r ∧ e = .returned (.tuple #[.string s, .bool true]) ∧ RgAt w' p S b c)) ∧ Fr (fun b => b = p) w w'

set_option maxRecDepth 100000 in
set_option maxHeartbeats 4000000 in
theorem bytes_rd (p a c : Nat) (S : ByteArray) (w : World) (h : RgAt w p S a c) (hs : S.size ≤ 4000000) (ha : a ≤ S.size) :
    Calls Tryz.prog 62 #[.pointer (some ⟨p, 0, none⟩)] w (BtPost p S a c w) := by
  have hd : RgAt w.drew p S a c := h
  have c0 := hd.cell (i := 0) rfl
  have c1 := hd.cell (i := 1) rfl
  have hbd : Below w.heap.size w w.drew := (Below.refl _ w).drew
  cases hP : numP (S.data.toList.drop a) with
  | none =>
    have HN := hidd (countedP_none hP)
    have HP := hidd hP
    clear hP h
    go_enter Tryz.func62, Tryz.ntmps62
    go_wp2_with fail
    go_region_held3 (fun W => W = w.drew)
      (first | rfl | assumption)
      ((go_at_call 63; refine (head_no S a _ hs ha HP.out).mono ?_; rintro e w' ⟨⟨b, rfl⟩, rfl⟩))
    go_wp2_with fail
    go_ret2
    exact ⟨.inl ⟨HN.out, rfl⟩, Fr.ob hbd⟩
  | some x =>
    obtain ⟨n, r⟩ := x
    obtain ⟨b, hb, hdr, hC⟩ := head_is S a hs ha hP
    obtain ⟨n9, -, -⟩ := numP_lt hP
    have hrl : r.length = S.size - b := by rw [← hdr, List.length_drop, size_toList]
    have HC := hidd hC
    have q0 : IntKind.i64.wrap ((S.size : Int) - (b : Int)) = (S.size : Int) - (b : Int) := i64_in _ (by omega)
    have q1 : decide ((n : Int) < 0) = false := decide_eq_false (by omega)
    have q2 : ¬ ((n : Int) < 0) := by omega
    by_cases hbig : r.length < n
    · have HN := hidd (countedP_big hP hbig)
      have y : decide ((S.size : Int) - (b : Int) < (n : Int)) = true := decide_eq_true (by omega)
      have y' : (S.size : Int) - (b : Int) < (n : Int) := by omega
      clear hP h hC hdr hrl
      go_enter Tryz.func62, Tryz.ntmps62
      go_wp2_with fail
      go_region_held3 (fun W => W = w.drew)
        (first | rfl | assumption)
        ((go_at_call 63; refine (HC.out _).mono ?_; rintro e w' ⟨rfl, rfl⟩))
      go_wp2_with fail
      go_ret2
      exact ⟨.inl ⟨HN.out, rfl⟩, Fr.ob hbd⟩
    · have HN := hidd (countedP_some hP (by omega))
      have y : decide ((S.size : Int) - (b : Int) < (n : Int)) = false := decide_eq_false (by omega)
      have y' : ¬ ((S.size : Int) - (b : Int) < (n : Int)) := by omega
      have q3 : IntKind.i64.wrap ((b : Int) + (n : Int)) = (b : Int) + (n : Int) := i64_in _ (by omega)
      have z1 := hd.frozen 1
      have h2 : RgAt (w.drew.setCell ⟨p, 1, none⟩ (.int .i64 ((b : Int) + (n : Int)))) p S (b + n) c := Blk.set hd 1 (.int .i64 ((b : Int) + (n : Int)))
      have hF := (Fr.ob (S := fun b => b = p) hbd).setCell (p := ⟨p, 1, none⟩) (.inl rfl) (.int .i64 ((b : Int) + (n : Int)))
      have hsl : ∀ wx : World, (Instr.slice 9 (.string S) (some (.int .i64 (b : Int))) (some (.int .i64 ((b : Int) + (n : Int)))) none).run Tryz.prog wx = .ok (.string (S.extract b (b + n))) wx := fun wx => by
        have := run_slice_string (P := Tryz.prog) wx 9 S .i64 .i64 (b : Int) ((b : Int) + (n : Int)) Tryz.underlying9 (by omega) (by omega) (by omega)
        rw [this]
        rfl
      obtain ⟨X, hX⟩ : ∃ X, S.extract b (b + n) = X := ⟨_, rfl⟩
      have HX : Hid (X = bstr (r.take n)) := hidd (by
        rw [← hX]; apply ba_ext; rw [bstr_list, Lib.extract_data, hdr, show b + n - b = n by omega])
      rw [hX] at hsl
      have HD : Hid (S.data.toList.drop (b + n) = r.drop n) := hidd (by rw [← hdr, List.drop_drop])
      have HL : Hid (b + n ≤ S.size) := hidd (by omega)
      have H2 := hidd h2
      have HF := hidd hF
      clear hP h hC hdr hrl h2 hF hX
      go_enter Tryz.func62, Tryz.ntmps62
      go_wp2_with fail
      go_region_held3 (fun W => W = w.drew)
        (first | rfl | assumption)
        ((go_at_call 63; refine (HC.out _).mono ?_; rintro e w' ⟨rfl, rfl⟩))
      generalize w.drew = wd at *
      go_wp2_with fail
      go_ret2
      exact ⟨.inr ⟨X, _, b + n, by rw [HX.out]; exact HN.out, HL.out, HD.out, rfl, H2.out⟩, HF.out⟩
end Go.Proofs.YtoaedkinlnkkhaaGreatDoor
