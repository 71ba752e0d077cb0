/- The contracts of package tape's small functions: a record, one record, a new disk, its bytes. Condition: the library's tables and variables read as listed, sizes fit. -/
import Derived.Test.YtpijgncmahbjhaaDoorOz
import Derived.Test.YtpijgncmahbjhaaDoorTpL
import Derived.Test.YtpijgncmahbjhaaDoorShelf
import Derived.Test.YtpijgncmahbjhaaDoorEnv
import Derived.RegionTactic
import Derived.Lib.Split
namespace Go.Proofs.YtpijgncmahbjhaaDoor
open Go.RowKit Go.Sort

/-- What the library's functions read. -/
structure TEnv (w : World) : Prop where
  tab : Lib.TabIs Tryd.prog w "internal/strconv.uint64pow10" .u64 Lib.pow10Tab
  ml : ∃ m, w.cell? ⟨14, 0, none⟩ = some (.int .i64 m)
  sy : ∃ te pe, w.cell? ⟨15, 0, none⟩ = some (.iface te pe)
  ra : ∃ te pe, w.cell? ⟨16, 0, none⟩ = some (.iface te pe)

theorem tab_ob {w w' : World} {B : Nat} (h : Lib.TabIs Tryd.prog w "internal/strconv.uint64pow10" .u64 Lib.pow10Tab) (hb : Below B w w') (hB : w.heap.size ≤ B) : Lib.TabIs Tryd.prog w' "internal/strconv.uint64pow10" .u64 Lib.pow10Tab := by
  unfold Lib.TabIs at *
  unfold World.var? at h ⊢
  have hg : Tryd.prog.globalNamed "internal/strconv.uint64pow10" = some 17 := by kernel_rfl
  rw [hg] at h ⊢
  simp only [Option.bind_some] at h ⊢
  have hlt : 17 < w.heap.size := by
    rcases Nat.lt_or_ge 17 w.heap.size with h' | h'
    · exact h'
    · rw [Array.getElem?_eq_none h'] at h; cases h
  rw [hb.block _ (by omega)]
  exact h
theorem TEnv.ob {w w' : World} {B : Nat} (h : TEnv w) (hb : Below B w w') (hB : w.heap.size ≤ B) : TEnv w' where
  tab := tab_ob h.tab hb hB
  ml := by
    obtain ⟨m, hm⟩ := h.ml
    exact ⟨m, by rw [hb.cell (Nat.lt_of_lt_of_le (World.block_lt_of_cell? w _ hm) hB)]; exact hm⟩
  sy := by
    obtain ⟨m, p, hm⟩ := h.sy
    exact ⟨m, p, by rw [hb.cell (Nat.lt_of_lt_of_le (World.block_lt_of_cell? w _ hm) hB)]; exact hm⟩
  ra := by
    obtain ⟨m, p, hm⟩ := h.ra
    exact ⟨m, p, by rw [hb.cell (Nat.lt_of_lt_of_le (World.block_lt_of_cell? w _ hm) hB)]; exact hm⟩
theorem TEnv.low {w0 w : World} (h : TEnv w0) (hb : Below w0.heap.size w0 w) : TEnv w := h.ob hb (Nat.le_refl _)

theorem below_gr (w : World) (k : Nat) (os : Array Obj) : Below w.heap.size w (grow (w.drewN k) os) :=
  ⟨rfl, rfl, rfl, by simp [grow, World.drewN, -World.drew_eq], fun j hj => by
    show (w.heap ++ os)[j]? = w.heap[j]?
    rw [Array.getElem?_append_left hj]⟩

/-- strconv.Itoa. -/
theorem itoa_any (n : Int) (w : World) (h0 : -9223372036854775808 ≤ n) (h1 : n ≤ 9223372036854775807) (ht : Lib.TabIs Tryd.prog w "internal/strconv.uint64pow10" .u64 Lib.pow10Tab) :
    Calls Tryd.prog 27 #[.int .i64 n] w fun e w' => e = .returned (.string ⟨(Lib.itoa n).toArray⟩) ∧ Below w.heap.size w w' :=
  (Tryd.strconv_Itoa n h0 h1 w ht).mono fun e _ ⟨he, k, os, hw⟩ => ⟨he, by rw [hw]; exact below_gr w k os⟩

/-- The record of a text. -/
def recB (s : ByteArray) : ByteArray := ⟨(rec10 s.data.toList).toArray⟩
theorem recB_list (s : ByteArray) : (recB s).data.toList = rec10 s.data.toList := by simp [recB]
theorem recB_size (s : ByteArray) : (recB s).size = (rec10 s.data.toList).length := by rw [← size_toList, recB_list]
theorem dec_len (n : Nat) (h : n ≤ 9999999) : (Lib.decDigits n).length ≤ 7 := by
  rw [Lib.decDigits_length]
  have : ∀ k u, u < 10 ^ (k + 1) → Lib.nDigits u ≤ k + 1 := by
    intro k
    induction k with
    | zero => intro u hu; rw [Lib.nDigits_small (by omega)]; omega
    | succ k ih =>
      intro u hu
      by_cases hu9 : u < 10
      · rw [Lib.nDigits_small hu9]; omega
      · rw [Lib.nDigits_big hu9]
        have := ih (u / 10) (by rw [Nat.pow_succ] at hu; omega)
        omega
  exact this 6 n (by omega)
theorem rec10_le (s : List UInt8) (h : s.length ≤ 9999999) : (rec10 s).length ≤ s.length + 10 := by
  have := dec_len s.length h
  simp [rec10]; omega

theorem ret_str {a b : ByteArray} (h : a = b) : Ending.returned (.string a) = .returned (.string b) := by rw [h]

set_option maxRecDepth 100000 in
theorem record_any (s : ByteArray) (w : World) (hs : s.size ≤ 9999999) (hT : TEnv w) :
    Calls Tryd.prog 21 #[.string s] w fun e w' => e = .returned (.string (recB s)) ∧ Below w.heap.size w w' := by
  have H : Hid ((⟨(Lib.itoa (s.size : Int)).toArray⟩ : ByteArray) ++ ⟨#[58]⟩ ++ s ++ ⟨#[10, 46]⟩ = recB s) := hidd (ba_ext (by
    rw [recB_list, Lib.itoa_nonneg]
    simp [rec10]))
  have hil : (Lib.itoa (s.size : Int)).length ≤ 7 := by rw [Lib.itoa_nonneg]; exact dec_len _ hs
  go_enter Tryd.func21, Tryd.ntmps21
  go_wp2_with fail
  refine (itoa_any _ _ (by omega) (by omega) hT.tab).mono ?_
  rintro e w' ⟨rfl, hb⟩
  go_wp2_with fail
  go_ret
  exact ⟨ret_str H.out, hb⟩

/-- strconv.Atoi, however it ends. -/
def AtoiPost (s : ByteArray) (w : World) (e : Ending) (w' : World) : Prop :=
  (∃ (v : Int) (ev : Value), e = .returned (.tuple #[.int .i64 v, ev]) ∧ -9223372036854775808 ≤ v ∧ v ≤ 9223372036854775807 ∧ ((Lib.atoiAll s.data.toList = .ok v ∧ ev = .nilIface) ∨ ((∀ u, Lib.atoiAll s.data.toList ≠ .ok u) ∧ ∃ t p, ev = .iface t p))) ∧ Below w.heap.size w w'
theorem atoi_any (s : ByteArray) (w : World) (hs : s.size ≤ 281474976710656) (hT : TEnv w) :
    Calls Tryd.prog 29 #[.string s] w (AtoiPost s w) := by
  rcases h : Lib.atoiAll s.data.toList with v | _ | _
  · refine (Tryd.strconv_Atoi_ok s (by omega) v h w).mono ?_
    rintro e w' ⟨rfl, hw⟩
    obtain ⟨b0, b1⟩ := Lib.atoiAll_bounds h
    refine ⟨⟨v, _, rfl, b0, b1, .inl ⟨h, rfl⟩⟩, ?_⟩
    rcases hw with rfl | ⟨t, rfl⟩
    · exact Below.refl _ _
    · exact Lib.bytesWorld_below _ _ _
  · obtain ⟨te, pe, hv⟩ := hT.sy
    refine Calls.mono (Any.strconv_Atoi_syntax Tryd.laysC172 s hs h _ w hv (.inr ⟨te, pe, rfl⟩)) ?_
    rintro e w' ⟨N, rfl, -, -, hb⟩
    exact ⟨⟨0, _, rfl, by omega, by omega, .inr ⟨(fun u hu => by rw [h] at hu; cases hu), _, _, rfl⟩⟩, hb⟩
  · obtain ⟨te, pe, hv⟩ := hT.ra
    obtain ⟨b0, b1⟩ := Lib.atoiSat_bounds s.data.toList
    refine (Tryd.strconv_Atoi_range s hs h _ w hv (.inr ⟨te, pe, rfl⟩)).mono ?_
    rintro e w' ⟨N, rfl, -, -, hb⟩
    exact ⟨⟨_, _, rfl, b0, b1, .inr ⟨(fun u hu => by rw [h] at hu; cases hu), _, _, rfl⟩⟩, hb⟩

/-- strings.Cut at a colon. -/
theorem cut_any (b : ByteArray) (w : World) (hs : b.size < 4294967281) (hT : TEnv w) (D R : ByteArray) (is : Bool) (hc : Lib.cut b.data.toList [58] = (D.data.toList, R.data.toList, is)) :
    Calls Tryd.prog 28 #[.string b, .string ⟨#[58]⟩] w fun e w' => e = .returned (.tuple #[.string D, .string R, .bool is]) ∧ Below w.heap.size w w' := by
  obtain ⟨m, hm⟩ := hT.ml
  refine (Tryd.strings_Cut b ⟨#[58]⟩ m w hs hm).mono ?_
  rintro e w' ⟨rfl, n, rfl⟩
  have e1 : (⟨#[58]⟩ : ByteArray).data.toList = [58] := rfl
  rw [e1, hc]
  refine ⟨?_, Below.drewN _ _ _⟩
  have f : ∀ x : ByteArray, (⟨x.data.toList.toArray⟩ : ByteArray) = x := fun x => ba_ext (by simp)
  simp only [f]

/-- What one answers. -/
def oneR (o : Option (List UInt8)) : Value := match o with
  | some s => .tuple #[.string ⟨s.toArray⟩, .bool true]
  | none => .tuple #[.string ⟨#[]⟩, .bool false]

theorem ret_one {s : List UInt8} {X : ByteArray} (h : (⟨s.toArray⟩ : ByteArray) = X) : Ending.returned (.tuple #[.string X, .bool true]) = .returned (oneR (some s)) := by rw [← h]; rfl

/-- What stands at a text's beginning, by its parts. -/
theorem oneL_parts {b D R : List UInt8} {is : Bool} (hc : Lib.cut b [58] = (D, R, is)) :
    oneL b = if is = true then (match Lib.atoiAll D with
      | .ok v => if D.length ≤ 9 ∧ 0 ≤ v ∧ Lib.itoa v = D ∧ v ≤ 20000 ∧ v + 2 ≤ (R.length : Int) ∧ (R.drop v.toNat).take 2 = [10, 46] then some (R.take v.toNat) else none
      | _ => none) else none := by
  unfold oneL; rw [hc]; rfl

def OnePost (b : ByteArray) (w : World) (e : Ending) (w' : World) : Prop := e = .returned (oneR (oneL b.data.toList)) ∧ Below w.heap.size w w'

set_option maxRecDepth 100000 in
set_option maxHeartbeats 4000000 in
theorem one_any (b : ByteArray) (w : World) (hs : b.size ≤ 4000000) (hT : TEnv w) :
    Calls Tryd.prog 23 #[.string b] w (OnePost b w) := by
  obtain ⟨D, R, is, hc⟩ : ∃ D R : ByteArray, ∃ is, Lib.cut b.data.toList [58] = (D.data.toList, R.data.toList, is) := ⟨⟨(Lib.cut b.data.toList [58]).1.toArray⟩, ⟨(Lib.cut b.data.toList [58]).2.1.toArray⟩, (Lib.cut b.data.toList [58]).2.2, by simp⟩
  have hone := oneL_parts hc
  have hDR : D.size ≤ b.size ∧ R.size ≤ b.size := by
    rw [← size_toList D, ← size_toList R, ← size_toList b]
    rcases cut_cases b.data.toList with h | ⟨d, r, hb, h⟩
    · rw [h] at hc; simp only [Prod.mk.injEq] at hc; rw [← hc.1, ← hc.2.1]; simp
    · rw [h] at hc; simp only [Prod.mk.injEq] at hc; rw [← hc.1, ← hc.2.1, hb]; simp; omega
  obtain ⟨hD, hR⟩ := hDR
  have HO := hidd hone
  have HC := hidd hc
  clear hone hc
  go_enter Tryd.func23, Tryd.ntmps23
  go_wp2_with fail
  refine (cut_any b _ (by omega) hT D R is HC.out).mono ?_
  rintro e w1 ⟨rfl, hb1⟩
  have hT1 := hT.low hb1
  clear HC
  go_wp2_with fail
  refine (atoi_any D w1 (by omega) hT1).mono ?_
  rintro e w2 ⟨⟨v, ev, rfl, v0, v1, hor⟩, hb2⟩
  have hB2 := hb1.trans (hb2.mono hb1.size)
  have hT2 := hT1.low hb2
  clear hb1 hb2 hT hT1
  rcases hor with ⟨hat, rfl⟩ | ⟨hno, t, p, rfl⟩
  · cases is
    · have HF : Hid (oneL b.data.toList = none) := hidd (by rw [HO.out]; rfl)
      clear HO hat
      go_wp2_with fail
      go_ret2
      exact ⟨by rw [HF.out]; rfl, hB2⟩
    · by_cases h9 : D.size ≤ 9
      · have h9' : (D.size : Int) ≤ 9 := by omega
        by_cases h0 : 0 ≤ v
        · obtain ⟨n, rfl⟩ := Int.eq_ofNat_of_zero_le h0
          obtain ⟨I, hI⟩ : ∃ I : ByteArray, (⟨(Lib.itoa (n : Int)).toArray⟩ : ByteArray) = I := ⟨_, rfl⟩
          have hI2 : Lib.itoa (n : Int) = I.data.toList := by rw [← hI]
          have HIT := hidd hI
          cases hi : I.toList == D.toList
          · have HF : Hid (oneL b.data.toList = none) := hidd (by
              rw [HO.out]
              simp only [if_true, hat]
              rw [if_neg]
              rintro ⟨-, -, h3, -⟩
              rw [hI2, ← Lib.toList_data, ← Lib.toList_data] at h3
              rw [h3] at hi
              simp at hi)
            clear HO hat hI hI2
            go_wp2_with fail
            refine (itoa_any _ _ (by omega) (by omega) hT2.tab).mono ?_
            rintro e w3 ⟨rfl, hb3⟩
            rw [HIT.out]
            have hB3 := hB2.trans (hb3.mono hB2.size)
            clear hB2 hb3 hT2
            go_wp2_with fail
            go_ret2
            exact ⟨by rw [HF.out]; rfl, hB3⟩
          · have hID : Lib.itoa (n : Int) = D.data.toList := by
              rw [hI2, ← Lib.toList_data, ← Lib.toList_data]
              simpa using hi
            by_cases hn : n ≤ 20000
            · have z1 : decide ((20000 : Int) < (n : Int)) = false := by simp; omega
              have z1' : decide (20000 < n) = false := by simp; omega
              by_cases hl : n + 2 ≤ R.size
              · have z2 : decide ((R.size : Int) < (n : Int) + 2) = false := by simp; omega
                have z2' : decide (R.size < n + 2) = false := by simp; omega
                have z3 : (0 : Int) ≤ (n : Int) := by omega
                have z4 : (n : Int) + 2 ≤ (R.size : Int) := by omega
                have z5 : (n : Int) ≤ (R.size : Int) := by omega
                have hsl : ∀ wx : World, (Instr.slice 9 (.string R) (some (.int .i64 (n : Int))) (some (.int .i64 ((n : Int) + 2))) none).run Tryd.prog wx = .ok (.string (R.extract n (n + 2))) wx := fun wx => by
                  have := run_slice_string (P := Tryd.prog) wx 9 R .i64 .i64 (n : Int) ((n : Int) + 2) Tryd.underlying9 (by omega) (by omega) (by omega)
                  rw [this]
                  rfl
                have hXe : ∀ X : ByteArray, R.extract n (n + 2) = X → X.toList = (R.data.toList.drop n).take 2 := fun X e => by
                  rw [← e, Lib.extract_toList, show n + 2 - n = 2 by omega]
                obtain ⟨X, hX⟩ : ∃ X : ByteArray, R.extract n (n + 2) = X := ⟨_, rfl⟩
                have hX2 := hXe X hX
                rw [hX] at hsl
                clear hXe hX
                cases hx : X.toList == [10, 46]
                · have hx2 : ((R.data.toList.drop n).take 2 == [10, 46]) = false := by
                    rwa [hX2] at hx
                  have HF : Hid (oneL b.data.toList = none) := hidd (by
                    rw [HO.out]
                    simp only [if_true, hat]
                    rw [if_neg]
                    rintro ⟨-, -, -, -, -, h6⟩
                    rw [Int.toNat_natCast] at h6
                    rw [h6] at hx2
                    simp at hx2)
                  clear HO hat hI hI2 hID hX2 hx2
                  go_wp2_with fail
                  refine (itoa_any _ _ (by omega) (by omega) hT2.tab).mono ?_
                  rintro e w3 ⟨rfl, hb3⟩
                  rw [HIT.out]
                  have hB3 := hB2.trans (hb3.mono hB2.size)
                  clear hB2 hb3 hT2
                  go_wp2_with fail
                  go_ret2
                  exact ⟨by rw [HF.out]; rfl, hB3⟩
                · have hx2 : (R.data.toList.drop n).take 2 = [10, 46] := by
                    rw [hX2] at hx
                    simpa using hx
                  have HF : Hid (oneL b.data.toList = some (R.data.toList.take n)) := hidd (by
                    rw [HO.out]
                    simp only [if_true, hat]
                    rw [if_pos ⟨by rw [size_toList]; exact h9, by omega, hID, by omega, by rw [size_toList]; omega, by rw [Int.toNat_natCast]; exact hx2⟩, Int.toNat_natCast])
                  have HE : Hid ((⟨(R.data.toList.take n).toArray⟩ : ByteArray) = R.extract 0 n) := hidd (ba_ext (by rw [Lib.extract_from_zero]))
                  clear HO hat hI hI2 hID hx2 hX2
                  go_wp2_with fail
                  refine (itoa_any _ _ (by omega) (by omega) hT2.tab).mono ?_
                  rintro e w3 ⟨rfl, hb3⟩
                  rw [HIT.out]
                  have hB3 := hB2.trans (hb3.mono hB2.size)
                  clear hB2 hb3 hT2
                  go_wp2_with fail
                  go_ret2
                  exact ⟨by rw [HF.out]; exact ret_one HE.out, hB3⟩
              · have z2 : decide ((R.size : Int) < (n : Int) + 2) = true := by simp; omega
                have z2' : decide (R.size < n + 2) = true := by simp; omega
                have HF : Hid (oneL b.data.toList = none) := hidd (by
                  rw [HO.out]
                  simp only [if_true, hat]
                  rw [if_neg]
                  rintro ⟨-, -, -, -, h5, -⟩
                  rw [size_toList] at h5
                  omega)
                clear HO hat hI hI2 hID hl
                go_wp2_with fail
                refine (itoa_any _ _ (by omega) (by omega) hT2.tab).mono ?_
                rintro e w3 ⟨rfl, hb3⟩
                rw [HIT.out]
                have hB3 := hB2.trans (hb3.mono hB2.size)
                clear hB2 hb3 hT2
                go_wp2_with fail
                go_ret2
                exact ⟨by rw [HF.out]; rfl, hB3⟩
            · have z1 : decide ((20000 : Int) < (n : Int)) = true := by simp; omega
              have z1' : decide (20000 < n) = true := by simp; omega
              have HF : Hid (oneL b.data.toList = none) := hidd (by
                rw [HO.out]
                simp only [if_true, hat]
                rw [if_neg]
                rintro ⟨-, -, -, h4, -⟩
                omega)
              clear HO hat hI hI2 hID hn
              go_wp2_with fail
              refine (itoa_any _ _ (by omega) (by omega) hT2.tab).mono ?_
              rintro e w3 ⟨rfl, hb3⟩
              rw [HIT.out]
              have hB3 := hB2.trans (hb3.mono hB2.size)
              clear hB2 hb3 hT2
              go_wp2_with fail
              go_ret2
              exact ⟨by rw [HF.out]; rfl, hB3⟩
        · have HF : Hid (oneL b.data.toList = none) := hidd (by
            rw [HO.out]
            simp only [if_true, hat]
            rw [if_neg]
            rintro ⟨-, h3, -⟩
            exact h0 h3)
          have h0' : decide (0 ≤ v) = false := by simpa using h0
          clear HO hat
          go_wp2_with fail
          go_ret2
          exact ⟨by rw [HF.out]; rfl, hB2⟩
      · have HF : Hid (oneL b.data.toList = none) := hidd (by
          rw [HO.out]
          simp only [if_true, hat]
          rw [if_neg]
          rintro ⟨h3, -⟩
          rw [size_toList] at h3
          exact h9 h3)
        have h9' : ¬ (D.size : Int) ≤ 9 := by omega
        have h9'' : decide ((D.size : Int) ≤ 9) = false := by simpa using h9'
        clear HO hat
        go_wp2_with fail
        go_ret2
        exact ⟨by rw [HF.out]; rfl, hB2⟩
  · have HF : Hid (oneL b.data.toList = none) := hidd (by
      rw [HO.out]
      cases is
      · rfl
      · cases ha : Lib.atoiAll D.data.toList with
        | ok u => exact absurd ha (hno u)
        | _ => rfl)
    clear HO hno
    cases is
    · go_wp2_with fail
      go_ret2
      exact ⟨by rw [HF.out]; rfl, hB2⟩
    · go_wp2_with fail
      go_ret2
      exact ⟨by rw [HF.out]; rfl, hB2⟩
end Go.Proofs.YtpijgncmahbjhaaDoor
