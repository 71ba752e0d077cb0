/- The order of names; the contracts of slices.BinarySearchFunc over kids and of path.kid. Condition: the tree is there, its names rise. -/
import Derived.Test.YtbadnmfmncjdjaaGreatDoorPaC
import Derived.Test.YtbadnmfmncjdjaaGreatDoorShelf
namespace Go.Proofs.YtbadnmfmncjdjaaGreatDoor
open Go.RowKit Go.Shelf

/-- A text's order against another one. -/
def cmpB (a b : ByteArray) : Int := Lib.compareBytes a.data.toList b.data.toList
theorem cmp_bd : ∀ a b : List UInt8, -1 ≤ Lib.compareBytes a b ∧ Lib.compareBytes a b ≤ 1
  | [], [] => by simp [Lib.compareBytes]
  | [], _ :: _ => by simp [Lib.compareBytes]
  | _ :: _, [] => by simp [Lib.compareBytes]
  | a :: xs, b :: ys => by
    unfold Lib.compareBytes
    split
    · simp
    · split
      · simp
      · exact cmp_bd xs ys
theorem cmp_eq : ∀ a b : List UInt8, Lib.compareBytes a b = 0 ↔ a = b
  | [], [] => by simp [Lib.compareBytes]
  | [], _ :: _ => by simp [Lib.compareBytes]
  | _ :: _, [] => by simp [Lib.compareBytes]
  | a :: xs, b :: ys => by
    unfold Lib.compareBytes
    by_cases h1 : a < b
    · rw [if_pos h1]
      simp only [List.cons.injEq]
      exact ⟨fun h => by omega, fun h => absurd h1 (by rw [h.1]; exact UInt8.lt_irrefl _)⟩
    · rw [if_neg h1]
      by_cases h2 : b < a
      · rw [if_pos h2]
        simp only [List.cons.injEq]
        exact ⟨fun h => by omega, fun h => absurd h2 (by rw [h.1]; exact UInt8.lt_irrefl _)⟩
      · rw [if_neg h2, cmp_eq xs ys, List.cons.injEq]
        have : a = b := UInt8.le_antisymm (UInt8.not_lt.1 h2) (UInt8.not_lt.1 h1)
        exact ⟨fun h => ⟨this, h⟩, fun h => h.2⟩
theorem cmp_less : ∀ a b : List UInt8, Op.bytesLess a b = decide (Lib.compareBytes a b < 0)
  | [], [] => by simp [Lib.compareBytes, Op.bytesLess]
  | [], _ :: _ => by simp [Lib.compareBytes, Op.bytesLess]
  | _ :: _, [] => by simp [Lib.compareBytes, Op.bytesLess]
  | a :: xs, b :: ys => by
    have ih := cmp_less xs ys
    unfold Lib.compareBytes Op.bytesLess
    by_cases h1 : a < b
    · simp [h1]
    · by_cases h2 : b < a
      · have hne : ¬ a = b := fun e => by rw [e] at h2; exact UInt8.lt_irrefl _ h2
        simp [h1, h2, hne]
      · have : a = b := UInt8.le_antisymm (UInt8.not_lt.1 h2) (UInt8.not_lt.1 h1)
        subst this
        simpa [h1] using ih
theorem cmp_swap : ∀ a b : List UInt8, Lib.compareBytes b a = - Lib.compareBytes a b
  | [], [] => by simp [Lib.compareBytes]
  | [], _ :: _ => by simp [Lib.compareBytes]
  | _ :: _, [] => by simp [Lib.compareBytes]
  | a :: xs, b :: ys => by
    have ih := cmp_swap xs ys
    unfold Lib.compareBytes
    by_cases h1 : a < b
    · have h2 : ¬ b < a := fun h => UInt8.lt_irrefl _ (UInt8.lt_trans h1 h)
      simp [h1, h2]
    · by_cases h2 : b < a
      · simp [h1, h2]
      · simpa [h1, h2] using ih
theorem cmp_trans : ∀ a b c : List UInt8, Lib.compareBytes a b < 0 → Lib.compareBytes b c < 0 → Lib.compareBytes a c < 0
  | [], b, [], h1, h2 => by cases b <;> simp [Lib.compareBytes] at h1 h2
  | [], _, _ :: _, _, _ => by simp [Lib.compareBytes]
  | _ :: _, [], _, h1, _ => by simp [Lib.compareBytes] at h1
  | _ :: _, _ :: _, [], _, h2 => by simp [Lib.compareBytes] at h2
  | a :: xs, b :: ys, c :: zs, h1, h2 => by
    have ih := cmp_trans xs ys zs
    unfold Lib.compareBytes at h1 h2 ⊢
    by_cases k1 : a < b
    · by_cases k2 : b < c
      · rw [if_pos (UInt8.lt_trans k1 k2)]; omega
      · rw [if_neg k2] at h2
        by_cases k3 : c < b
        · rw [if_pos k3] at h2; omega
        · have : b = c := UInt8.le_antisymm (UInt8.not_lt.1 k3) (UInt8.not_lt.1 k2)
          rw [if_pos (this ▸ k1)]; omega
    · rw [if_neg k1] at h1
      by_cases k3 : b < a
      · rw [if_pos k3] at h1; omega
      · rw [if_neg k3] at h1
        have : a = b := UInt8.le_antisymm (UInt8.not_lt.1 k3) (UInt8.not_lt.1 k1)
        subst this
        by_cases k2 : a < c
        · rw [if_pos k2]; omega
        · rw [if_neg k2] at h2 ⊢
          by_cases k4 : c < a
          · rw [if_pos k4] at h2; omega
          · rw [if_neg k4] at h2 ⊢
            exact ih h1 h2
theorem cmpB_eq {a b : ByteArray} : cmpB a b = 0 ↔ a = b := by
  unfold cmpB
  rw [cmp_eq]
  exact ⟨Go.WideShapes.bytes_inj, fun h => by rw [h]⟩
theorem cmpB_swap (a b : ByteArray) : cmpB b a = - cmpB a b := cmp_swap _ _
theorem cmpB_trans {a b c : ByteArray} : cmpB a b < 0 → cmpB b c < 0 → cmpB a c < 0 := cmp_trans _ _ _
theorem leB_cmp (a b : ByteArray) : (!leB b a) = decide (cmpB a b < 0) := by
  unfold leB cmpB
  rw [Lib.toList_data, Lib.toList_data, cmp_less]
  have h1 := cmp_swap a.data.toList b.data.toList
  have h2 := cmp_eq b.data.toList a.data.toList
  by_cases h0 : Lib.compareBytes b.data.toList a.data.toList = 0
  · have e := h2.1 h0
    rw [e]
    have := (cmp_eq a.data.toList a.data.toList).2 rfl
    simp [this]
  · have e : (b.data.toList == a.data.toList) = false := by
      cases hq : (b.data.toList == a.data.toList) with
      | false => rfl
      | true => exact absurd (h2.2 (by simpa using hq)) h0
    rw [e, Bool.or_false]
    by_cases h3 : Lib.compareBytes b.data.toList a.data.toList < 0
    · rw [decide_eq_true h3, decide_eq_false (by omega)]; rfl
    · rw [decide_eq_false h3, decide_eq_true (by omega)]; rfl
/-- Names that rise: each is ahead of all behind it. -/
theorem rising_lt : ∀ {l : List ByteArray}, rising l = true → ∀ (i j : Nat) (hi : i < j) (hj : j < l.length), cmpB (l[i]'(by omega)) l[j] < 0
  | [], _, i, j, _, hj => by simp at hj
  | [a], _, i, j, hi, hj => by simp at hj; omega
  | a :: b :: r, h, i, j, hi, hj => by
    unfold rising at h
    rw [Bool.and_eq_true, leB_cmp] at h
    obtain ⟨h1, h2⟩ := h
    have h1 := of_decide_eq_true h1
    have ih := rising_lt h2
    cases j with
    | zero => omega
    | succ j =>
      cases i with
      | succ i => exact ih i j (by omega) (by simpa using hj)
      | zero =>
        cases j with
        | zero => exact h1
        | succ j => exact cmpB_trans h1 (ih 0 (j + 1) (by omega) (by simpa using hj))

/-- What a search for a name finds: how many are ahead of it; is it there? -/
def FndK {α : Type} (ks : List (ByteArray × α)) (n : ByteArray) (i : Nat) (f : Bool) : Prop :=
  i ≤ ks.length ∧ (∀ j (h : j < ks.length), j < i → cmpB ks[j].1 n < 0) ∧ (∀ j (h : j < ks.length), i ≤ j → 0 ≤ cmpB ks[j].1 n) ∧ (f = true ↔ ∃ h : i < ks.length, ks[i].1 = n)

set_option maxRecDepth 100000 in
theorem kid_cl (x : ByteArray × Lt) (n : ByteArray) (w : World) :
    Calls Tryz.prog 81 #[kvl x, .string n] w fun e w' => e = .returned (.int .i64 (cmpB x.1 n)) ∧ Below w.heap.size w w' := by
  unfold kvl
  have hb1 : Below w.heap.size w (w.alloc (.cells #[.string x.1, .string x.2.kind, .string x.2.data, .bool x.2.exec, x.2.v] 67)) := (Below.refl _ _).alloc (Nat.le_refl _) _
  have HC := hidd (Tryz.strings_Compare x.1 n (w.alloc (.cells #[.string x.1, .string x.2.kind, .string x.2.data, .bool x.2.exec, x.2.v] 67)))
  have HV : Hid (Lib.compareBytes x.1.data.toList n.data.toList = cmpB x.1 n) := hidd rfl
  rw [HV.out] at HC
  go_enter Tryz.func81, Tryz.ntmps81
  go_wp2_with fail
  refine HC.out.mono ?_
  rintro e w' ⟨rfl, rfl⟩
  go_wp2_with fail
  go_ret
  exact ⟨rfl, hb1⟩

/-- What the search gives. -/
def BsP (ks : List (ByteArray × Lt)) (n : ByteArray) (w : World) (e : Ending) (w' : World) : Prop :=
  ∃ (i : Nat) (f : Bool), e = .returned (.tuple #[.int .i64 (i : Int), .bool f]) ∧ FndK ks n i f ∧ Below w.heap.size w w'

set_option maxRecDepth 100000 in
set_option maxHeartbeats 4000000 in
theorem bs_kids (v : Value) (ks : List (ByteArray × Lt)) (n : ByteArray) (w : World) (h : Sl w v (kcells ks) ks.length 5) (h5 : ks.length ≤ 1000000) (hr : rising (ks.map (·.1)) = true) :
    Calls Tryz.prog 80 #[v, .string n, .func (.func 81) #[] #[]] w (BsP ks n w) := by
  obtain ⟨a, cap, rfl, -⟩ := id h
  have HM : Hid (∀ i j (hi : i < ks.length) (hj : j < ks.length), i ≤ j → cmpB ks[j].1 n < 0 → cmpB ks[i].1 n < 0) := hidd (fun i j hi hj hij hc => by
    by_cases e : i = j
    · subst e; exact hc
    · have := rising_lt hr i j (by omega) (by simpa using hj)
      simp only [List.getElem_map] at this
      exact cmpB_trans this hc)
  clear hr
  go_enter Tryz.func80, Tryz.ntmps80
  go_wp2_with fail
  go_loopw [9, 10] (fun s9 s10 wr => ∃ lo hi : Nat, s9 = .int .i64 (lo : Int) ∧ s10 = .int .i64 (hi : Int) ∧ lo ≤ hi ∧ hi ≤ ks.length ∧ Hid (∀ j (h : j < ks.length), j < lo → cmpB ks[j].1 n < 0) ∧ Hid (∀ j (h : j < ks.length), hi ≤ j → 0 ≤ cmpB ks[j].1 n) ∧ Below w.heap.size w wr) (fun s9 s10 _ => (intOf s10).toNat - (intOf s9).toNat)
  case atStart => exact ⟨0, ks.length, rfl, rfl, Nat.zero_le _, Nat.le_refl _, hidd (fun j h hj => by omega), hidd (fun j h hj => by omega), Below.refl _ _⟩
  case round =>
    obtain ⟨lo, hi, rfl, rfl, hlh, hhn, HL, HH, hbel⟩ := hrel
    have hA := h.ob hbel (Nat.le_refl _)
    by_cases hlt : lo < hi
    · obtain ⟨m, hm⟩ : ∃ m, (lo + hi) / 2 = m := ⟨_, rfl⟩
      have hm1 : lo ≤ m ∧ m < hi := by omega
      have hmi : ((lo : Int) + (hi : Int)) / 2 = (m : Int) := by omega
      have hmk : m < ks.length := by omega
      obtain ⟨b, off, rfl, hb, a0, a1, a2, a3, a4⟩ := sl_at5 hA hmk
      have p1 : (0 : Int) ≤ (m : Int) := by omega
      have p2 : (m : Int) < (ks.length : Int) := by omega
      obtain ⟨x, hx⟩ : ∃ x, ks[m] = x := ⟨_, rfl⟩
      have HX : Hid (ks[m] = x) := hidd hx
      rw [hx] at a0 a1 a2 a3 a4
      have HC := hidd (kid_cl x n wr)
      unfold kvl at HC
      obtain ⟨cv, hcv⟩ : ∃ c, cmpB x.1 n = c := ⟨_, rfl⟩
      rw [hcv] at HC
      have HV := hidd hcv
      clear hx hcv hA h
      by_cases hc : cv < 0
      · have e1 : decide (cv < 0) = true := decide_eq_true hc
        go_wp2_with fail
        refine HC.out.mono ?_
        rintro e w5 ⟨rfl, hb5⟩
        have hB5 := hbel.trans (hb5.mono hbel.size)
        clear hb5 a0 a1 a2 a3 a4
        go_wp2_with fail
        go_roundw
        case rel => exact ⟨m + 1, hi, by go_num, rfl, by omega, hhn, hidd (fun j h hj => HM.out j m h hmk (by omega) (by rw [HX.out, HV.out]; exact hc)), HH, hB5⟩
        case measure => simp [intOf]; omega
      · have e1 : decide (cv < 0) = false := decide_eq_false hc
        go_wp2_with fail
        refine HC.out.mono ?_
        rintro e w5 ⟨rfl, hb5⟩
        have hB5 := hbel.trans (hb5.mono hbel.size)
        clear hb5 a0 a1 a2 a3 a4
        go_wp2_with fail
        go_roundw
        case rel => exact ⟨lo, m, rfl, rfl, by omega, by omega, HL, hidd (fun j h hj => Int.not_lt.1 (fun hcj => absurd (HM.out m j hmk h hj hcj) (by rw [HX.out, HV.out]; omega))), hB5⟩
        case measure => simp [intOf]; omega
    · obtain rfl : lo = hi := by omega
      by_cases hn : lo < ks.length
      · obtain ⟨b, off, rfl, hb, a0, a1, a2, a3, a4⟩ := sl_at5 hA hn
        have p1 : (0 : Int) ≤ (lo : Int) := by omega
        have p2 : (lo : Int) < (ks.length : Int) := by omega
        obtain ⟨x, hx⟩ : ∃ x, ks[lo] = x := ⟨_, rfl⟩
        have HX : Hid (ks[lo] = x) := hidd hx
        rw [hx] at a0 a1 a2 a3 a4
        have HC := hidd (kid_cl x n wr)
        unfold kvl at HC
        have HE := hidd (cmpB_eq (a := x.1) (b := n))
        obtain ⟨cv, hcv⟩ : ∃ c, cmpB x.1 n = c := ⟨_, rfl⟩
        rw [hcv] at HC HE
        clear hx hcv hA h
        by_cases hc : cv = 0
        · have e1 : (cv == 0) = true := by simp [hc]
          have HF : Hid (FndK ks n lo true) := hidd ⟨by omega, HL.out, HH.out, ⟨fun _ => ⟨hn, by rw [HX.out]; exact HE.out.1 hc⟩, fun _ => rfl⟩⟩
          subst hc
          go_wp2_with fail
          refine HC.out.mono ?_
          rintro e w5 ⟨rfl, hb5⟩
          have hB5 := hbel.trans (hb5.mono hbel.size)
          clear hb5 a0 a1 a2 a3 a4
          go_wp2_with fail
          go_ret2
          exact ⟨lo, true, rfl, HF.out, hB5⟩
        · have e1 : (cv == 0) = false := by simp [hc]
          have HF : Hid (FndK ks n lo false) := hidd ⟨by omega, HL.out, HH.out, ⟨(fun h => by cases h), fun ⟨_, h⟩ => absurd (HE.out.2 (by rw [← HX.out]; exact h)) hc⟩⟩
          go_wp2_with fail
          refine HC.out.mono ?_
          rintro e w5 ⟨rfl, hb5⟩
          have hB5 := hbel.trans (hb5.mono hbel.size)
          clear hb5 a0 a1 a2 a3 a4
          go_wp2_with fail
          go_ret2
          exact ⟨lo, false, rfl, HF.out, hB5⟩
      · have HF : Hid (FndK ks n lo false) := hidd ⟨by omega, HL.out, HH.out, ⟨(fun h => by cases h), fun ⟨h, _⟩ => absurd h hn⟩⟩
        clear hA h
        go_wp2_with fail
        go_ret2
        exact ⟨lo, false, rfl, HF.out, hbel⟩

set_option maxRecDepth 100000 in
theorem kid_find (t : Lt) (n : ByteArray) (w : World) (ht : t.Ok w) (h5 : t.kids.length ≤ 1000000) (hr : rising (t.kids.map (·.1)) = true) :
    Calls Tryz.prog 63 #[nval t, .string n] w (BsP t.kids n w) := by
  obtain ⟨a, cap, hv⟩ := ht.shape
  have hB0 : Below w.heap.size w (w.alloc (.cells #[.string t.kind, .string t.data, .bool t.exec, .slice a t.kids.length cap] 24)) := (Below.refl _ _).alloc (Nat.le_refl _) _
  have hC := bs_kids t.v t.kids n _ (ht.ob hB0).sl h5 hr
  unfold nval
  rw [hv] at hC ⊢
  have HC := hidd hC
  clear hC hv ht hr
  go_enter Tryz.func63, Tryz.ntmps63
  go_wp2_with fail
  refine HC.out.mono ?_
  rintro e w2 ⟨i, f, rfl, hf, hb2⟩
  have HF := hidd hf
  clear hf
  go_wp2_with fail
  go_ret2
  exact ⟨i, f, rfl, HF.out, hB0.trans (hb2.mono hB0.size)⟩
end Go.Proofs.YtbadnmfmncjdjaaGreatDoor
