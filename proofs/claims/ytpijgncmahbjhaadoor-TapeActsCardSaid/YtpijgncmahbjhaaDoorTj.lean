/- The closed fact of the tape's statements; stillroomlaw3.TapeJoins, walked. Condition: the arguments are there, the library's tables and variables read as listed. -/
import Derived.Test.YtpijgncmahbjhaaDoorTp4
namespace Go.Proofs.YtpijgncmahbjhaaDoor
open Go.RowKit

/-- The bytes of records, as a text. -/
def recsB (l : List ByteArray) : ByteArray := ⟨(recs l).toArray⟩
theorem recsB_list (l : List ByteArray) : (recsB l).data.toList = recs l := by simp [recsB]
theorem recsB_size (l : List ByteArray) : (recsB l).size = (recs l).length := by rw [← size_toList, recsB_list]
theorem recsB_snoc (l : List ByteArray) (s : ByteArray) : recsB l ++ recB s = recsB (l ++ [s]) := ba_ext (by
  simp only [ByteArray.data_append, Array.toList_append, recsB_list, recB_list, recs_app, recs_one])
theorem recsB_nil : recsB [] = ⟨#[]⟩ := rfl
theorem Rd.whole {l : List ByteArray} (h : ∀ s ∈ l, s.size ≤ 20000) : Rd (recsB l).data.toList l [] := ⟨by rw [recsB_list, List.append_nil], h, oneL_nil⟩

theorem rec_ab : recB ⟨#[97, 32, 98]⟩ = ⟨#[51, 58, 97, 32, 98, 10, 46]⟩ := ba_ext (by
  rw [recB_list]
  simp [rec10, Lib.decDigits_one])

set_option maxRecDepth 100000 in
set_option maxHeartbeats 4000000 in
theorem taped_true (w : World) (hT : TEnv w) : Calls Tryd.prog 6 #[] w fun e w' => e = .returned (.bool true) ∧ Below w.heap.size w w' := by
  have hrs : (recB ⟨#[97, 32, 98]⟩).size = 7 := by rw [rec_ab]; rfl
  have H0 : Hid ((⟨#[]⟩ : ByteArray) ++ recB ⟨#[97, 32, 98]⟩ = recsB [⟨#[97, 32, 98]⟩]) := hidd (ba_ext (by
    simp only [ByteArray.data_append, Array.toList_append, recsB_list, recB_list, recs_one]; simp))
  have H1 : Hid (recsB [⟨#[97, 32, 98]⟩] = ⟨#[51, 58, 97, 32, 98, 10, 46]⟩) := hidd (by rw [← rec_ab]; exact ba_ext (by rw [recsB_list, recs_one, recB_list]))
  have HRS := hidd hrs
  clear hrs
  go_enter Tryd.func6, Tryd.ntmps6
  go_wp2_with fail
  refine (newdisk_ok ⟨#[]⟩ w (by decide)).mono ?_
  rintro e w1 ⟨p, v, rfl, hd, hlow, hb1⟩
  have hT1 := hT.low hb1
  go_wp2_with fail
  refine (append_free p v ⟨#[]⟩ (-1) ⟨#[97, 32, 98]⟩ _ hd hT1 (by omega) (by decide) (by rw [HRS.out]; decide)).mono ?_
  rintro e w2 ⟨rfl, v2, hd2, hlow2, hf2⟩
  have hB2 : Below w.heap.size w w2 := hb1.trans (hf2.below hb1.size (fun i hi => hlow i hi))
  rw [H0.out] at hd2
  have hsz : (recsB [⟨#[97, 32, 98]⟩]).size ≤ 4000000 := by rw [H1.out]; decide
  have hpl := hlow p (.inl rfl)
  clear hT1 hd hf2
  go_wp2_with fail
  refine (recover_any p v2 _ false (-1) w _ hd2 hT hB2 hpl hsz).mono ?_
  rintro e w3 ⟨l, t, u, v', hrd, rfl, hown, hd3, -, hf3⟩
  obtain ⟨rfl, rfl⟩ := Rd.uniq hrd (Rd.whole (l := [⟨#[97, 32, 98]⟩]) (by decide))
  have hB3 := ob_of_fr hB2 hpl hf3
  have he : (recsB [⟨#[97, 32, 98]⟩]).extract 0 (recs [⟨#[97, 32, 98]⟩]).length = ⟨#[51, 58, 97, 32, 98, 10, 46]⟩ := by
    rw [← recsB_size, ← H1.out]
    exact ba_ext (by rw [Lib.extract_from_zero, ← size_toList, List.take_length])
  rw [he] at hd3
  clear he hrd hd2 hf3 hB2 hsz
  obtain ⟨ua, ucap, rfl⟩ := hown.shape
  have hnew := Blk.new w3 [.string ⟨#[97, 32, 98]⟩] 9
  have hs1 := (hown.alloc (.cells #[.string ⟨#[97, 32, 98]⟩] 9)).sl
  have hs2 : Sl (w3.alloc (.cells #[.string ⟨#[97, 32, 98]⟩] 9)) (.slice (some ⟨w3.heap.size, 0, none⟩) 1 1) (tcells [⟨#[97, 32, 98]⟩]) [(⟨#[97, 32, 98]⟩ : ByteArray)].length 1 :=
    Sl.of_owns (hnew.owns (base := 0) (by omega) (by unfold maxLen; simp))
  have hdd := hd3.ob ((Below.refl w3.heap.size w3).alloc (Nat.le_refl _) (.cells #[.string ⟨#[97, 32, 98]⟩] 9)) (Nat.le_refl _)
  have hB4 := hB3.alloc hB3.size (.cells #[.string ⟨#[97, 32, 98]⟩] 9)
  clear hd3 hnew hown
  go_wp2_with fail
  refine (sameTexts_any _ _ _ _ _ hs1 hs2).mono ?_
  rintro e w5 ⟨rfl, hb5⟩
  have hd5 := hdd.ob hb5 (Nat.le_refl _)
  have hB5 := hB4.trans (hb5.mono hB4.size)
  have z : decide ([(⟨#[97, 32, 98]⟩ : ByteArray)] = [⟨#[97, 32, 98]⟩]) = true := by simp
  rw [z]
  clear hs1 hs2 hdd hB4 hb5 hB3 hb1 z
  go_wp2_with fail
  refine (bytes_any _ _ _ _ _ _ hd5).mono ?_
  rintro e w6 ⟨rfl, rfl⟩
  go_wp2_with fail
  go_ret
  exact ⟨rfl, hB5⟩

theorem recs_le {l : List ByteArray} {m : Nat} (h : ∀ s ∈ l, s.size ≤ m) (hm : m ≤ 9999999) : (recs l).length ≤ l.length * (m + 10) := by
  induction l with
  | nil => simp [recs]
  | cons s l ih =>
    rw [recs_cons, List.length_append, List.length_cons, Nat.succ_mul]
    have h1 := ih (fun x hx => h x (by simp [hx]))
    have h2 := h s (by simp)
    have h3 := rec10_le s.data.toList (by rw [size_toList]; omega)
    rw [size_toList] at h3
    omega
theorem recB_le (s : ByteArray) (h : s.size ≤ 9999999) : (recB s).size ≤ s.size + 10 := by
  rw [recB_size]
  have := rec10_le s.data.toList (by rw [size_toList]; exact h)
  rwa [size_toList] at this
theorem all_take {l : List ByteArray} {m k : Nat} (hk : k < l.length) (h : ∀ s ∈ l.take k, s.size ≤ m) (h1 : l[k].size ≤ m) : ∀ s ∈ l.take (k + 1), s.size ≤ m := by
  intro s hs
  rw [List.take_succ_eq_append_getElem hk] at hs
  rcases List.mem_append.1 hs with h2 | h2
  · exact h s h2
  · simp at h2; subst h2; exact h1

set_option maxRecDepth 100000 in
set_option maxHeartbeats 4000000 in
theorem tj_early (v : Value) (L : List ByteArray) (b : ByteArray) (w : World) (hL : Sl w v (tcells L) L.length 1) (hT : TEnv w) (h : 20 < L.length ∨ 500 < b.size) :
    Calls Tryd.prog 3 #[v, .string b] w fun e w' => e = .returned (.bool true) ∧ Below w.heap.size w w' := by
  obtain ⟨a, cap, rfl, -⟩ := id hL
  by_cases h1 : 20 < L.length
  · have d1 : decide ((20 : Int) < (L.length : Int)) = true := by simp; omega
    have d1' : decide (20 < L.length) = true := by simp; omega
    clear h hL
    go_enter Tryd.func3, Tryd.ntmps3
    go_wp2_with fail
    refine (taped_true w hT).mono ?_
    rintro e w1 ⟨rfl, hb1⟩
    go_wp2_with fail
    go_ret
    exact ⟨rfl, hb1⟩
  · have d1 : decide ((20 : Int) < (L.length : Int)) = false := by simp; omega
    have d1' : decide (20 < L.length) = false := by simp; omega
    have h2 : 500 < b.size := by omega
    have d2 : decide ((500 : Int) < (b.size : Int)) = true := by simp; omega
    have d2' : decide (500 < b.size) = true := by simp; omega
    clear h hL
    go_enter Tryd.func3, Tryd.ntmps3
    go_wp2_with fail
    refine (taped_true w hT).mono ?_
    rintro e w1 ⟨rfl, hb1⟩
    go_wp2_with fail
    go_ret
    exact ⟨rfl, hb1⟩

set_option maxRecDepth 100000 in
set_option maxHeartbeats 40000000 in
theorem tj_good (v : Value) (L : List ByteArray) (b : ByteArray) (w : World) (hL : Sl w v (tcells L) L.length 1) (hT : TEnv w) (h1 : L.length ≤ 20) (h2 : b.size ≤ 500) :
    Calls Tryd.prog 3 #[v, .string b] w fun e w' => e = .returned (.bool true) ∧ Below w.heap.size w w' := by
  obtain ⟨i0, hi, hz0, hz1, hz2⟩ := info_parts infoStr
  obtain ⟨a, cap, rfl, -⟩ := id hL
  have d1 : decide ((20 : Int) < (L.length : Int)) = false := by simp; omega
  have d1' : decide (20 < L.length) = false := by simp; omega
  have d2 : decide ((500 : Int) < (b.size : Int)) = false := by simp; omega
  have d2' : decide (500 < b.size) = false := by simp; omega
  go_enter Tryd.func3, Tryd.ntmps3
  go_wp2_with fail
  refine (taped_true w hT).mono ?_
  rintro e w1 ⟨rfl, hb1⟩
  go_wp2_with fail
  refine (newdisk_ok ⟨#[]⟩ w1 (by decide)).mono ?_
  rintro e w2 ⟨p, v0, rfl, hd, hlow, hb2⟩
  have hB2 := hb1.trans (hb2.mono hb1.size)
  have hlow' : ∀ g, tdS p v0 g → w.heap.size ≤ g := fun g hg => Nat.le_trans hb1.size (hlow g hg)
  clear hb1 hb2 hlow d1 d1' d2 d2'
  go_wp2_with fail
  go_loopw [8] (fun t wr => ∃ (i : Nat) (v' : Value), i ≤ L.length ∧ t = .int .i64 (i : Int) ∧ TdAt wr p v' (recsB (L.take i)) false (-1) ∧ (∀ s ∈ L.take i, s.size ≤ 200) ∧ (∀ g, tdS p v' g → w.heap.size ≤ g) ∧ Below w.heap.size w wr) (fun t _ => L.length - (intOf t).toNat)
  case atStart => exact ⟨0, v0, Nat.zero_le _, rfl, hd, by simp, hlow', hB2⟩
  case round =>
    obtain ⟨i, v', hi', rfl, hdr, hall, hlr, hB⟩ := hrel
    have hTr := hT.low hB
    have hpw := hlr p (.inl rfl)
    clear hd hlow' hB2
    by_cases hlt : i < L.length
    · obtain ⟨sb, so, rfl, -, hc, hcell⟩ := (hL.ob hB (Nat.le_refl _)).at1 hlt
      rw [show (tcells L)[i] = .string L[i] by simp [tcells]] at hcell
      have q1 : (0 : Int) ≤ (i : Int) := by omega
      have q2 : (i : Int) < (L.length : Int) := by omega
      have hAT := fun h => all_take hlt hall h
      have hsn := recsB_snoc (L.take i) L[i]
      rw [← List.take_succ_eq_append_getElem hlt] at hsn
      have hAT' := hidd hAT
      have HSN := hidd hsn
      have hrl := recs_le hall (by omega)
      have htl : (L.take i).length ≤ 20 := by rw [List.length_take]; omega
      have hrl2 : (recsB (L.take i)).size ≤ 4200 := by
        rw [recsB_size]
        have := Nat.mul_le_mul_right (200 + 10) htl
        omega
      clear hAT hsn hc hrl htl
      generalize L[i] = s at *
      by_cases h200 : s.size ≤ 200
      · have z1 : decide ((200 : Int) < (s.size : Int)) = false := by simp; omega
        have z1' : decide (200 < s.size) = false := by simp; omega
        have hrb := recB_le s (by omega)
        have hall1 := hAT'.out h200
        have HA := hidd hall1
        have HA0 := hidd hall
        clear hall1 hall hAT'
        go_wp2_with fail
        refine (append_free p v' _ (-1) s _ hdr hTr (by omega) (by omega) (by omega)).mono ?_
        rintro e w3 ⟨rfl, v3, hd3, hown3, hf3⟩
        rw [HSN.out] at hd3
        have hB3 : Below w.heap.size w w3 := hB.trans (hf3.below hB.size hlr)
        have hlr3 : ∀ g, tdS p v3 g → w.heap.size ≤ g := by
          rintro g (rfl | hg)
          · exact hpw
          · rcases hown3 g hg with h | h
            · exact hlr g (.inr h)
            · exact Nat.le_trans hB.size h
        clear hdr hown3 hf3 hTr
        go_wp2_with fail
        go_roundw
        case rel => exact ⟨i + 1, v3, hlt, by go_num, hd3, HA.out, hlr3, hB3⟩
        case measure => simp [intOf]; omega
      · have z1 : decide ((200 : Int) < (s.size : Int)) = true := by simp; omega
        have z1' : decide (200 < s.size) = true := by simp; omega
        clear hall hAT'
        go_wp2_with fail
        go_ret
        exact ⟨rfl, hB⟩
    · obtain rfl : i = L.length := by omega
      rw [List.take_of_length_le (Nat.le_refl _)] at hdr hall
      have hrl := recs_le hall (by omega)
      have hrs : (recsB L).size ≤ 4200 := by
        rw [recsB_size]
        have := Nat.mul_le_mul_right (200 + 10) h1
        omega
      have hall2 : ∀ s ∈ L, s.size ≤ 20000 := fun s hs => by have := hall s hs; omega
      have HA := hidd hall2
      clear hall hall2 hrl
      go_wp2_with fail
      refine (bytes_any _ _ _ _ _ _ hdr).mono ?_
      rintro e w3 ⟨rfl, rfl⟩
      go_wp2_with fail
      refine (read_any _ _ (by omega) hTr).mono ?_
      rintro e w3 ⟨⟨l1, t1, x, hrd1, rfl, hx⟩, hb3⟩
      obtain ⟨e1, -⟩ := Rd.uniq hrd1 (Rd.whole HA.out)
      obtain rfl : L = l1 := e1.symm
      rw [← recsB_size]
      have hB3 := hB.trans (hb3.mono hB.size)
      have hT3 := hT.low hB3
      have hd3 := hdr.ob hb3 (Nat.le_refl _)
      obtain ⟨xa, xc, rfl⟩ := hx.shape
      clear hrd1 hTr hdr hB
      go_wp2_with fail
      refine (read_any b _ (by omega) hT3).mono ?_
      rintro e w4 ⟨⟨l2, t2, y, hrd2, rfl, hy⟩, hb4⟩
      have hB4 := hB3.trans (hb4.mono hB3.size)
      have hT4 := hT.low hB4
      have hd4 := hd3.ob hb4 (Nat.le_refl _)
      have hx4 := hx.ob hb4
      obtain ⟨ya, yc, rfl⟩ := hy.shape
      have hm2 : (recs l2).length ≤ 500 := by
        have : (recs l2).length + t2.length = b.size := by rw [← size_toList, hrd2.1]; simp
        omega
      have hl2 : l2.length ≤ (recs l2).length := by
        clear hrd2 hy hm2
        induction l2 with
        | nil => simp
        | cons s l ih => rw [recs_cons]; have := rec10_len s.data.toList; simp; omega
      obtain ⟨N, hN⟩ : ∃ N, (recsB L).size = N := ⟨_, rfl⟩
      obtain ⟨M, hM⟩ : ∃ M, (recs l2).length = M := ⟨_, rfl⟩
      have hrd3 : Rd (recsB L ++ b).data.toList (L ++ l2) t2 := ⟨by simp only [ByteArray.data_append, Array.toList_append, recsB_list, hrd2.1, recs_app, List.append_assoc], fun s hs => (List.mem_append.1 hs).elim (HA.out s) (hrd2.2.1 s), hrd2.2.2⟩
      have hk : (recs (L ++ l2)).length = N + M := by rw [recs_app, List.length_append, ← hN, ← hM, recsB_size]
      have hcs : (recsB L ++ b).size ≤ 4000000 := by simp only [ByteArray.size_append]; omega
      have hzs : N + b.size ≤ 9223372036854775807 := by omega
      rw [hM] at hm2 hl2
      have H3 := hidd hrd3
      have HK := hidd hk
      have HNN := hidd hN
      have HM := hidd hM
      clear hd3 hx hb3 hb4 hrd2 hrd3 hk hB3 hT3
      rw [hM]
      clear hM
      go_wp2_with fail
      refine (bytes_any _ _ _ _ _ _ hd4).mono ?_
      rintro e w5 ⟨rfl, rfl⟩
      go_wp2_with fail
      refine (read_any _ _ hcs hT4).mono ?_
      rintro e w5 ⟨⟨l3, t3, z, hrd3, rfl, hz⟩, hb5⟩
      obtain ⟨e3, -⟩ := Rd.uniq hrd3 H3.out
      have hk3 : (recs l3).length = N + M := by rw [e3]; exact HK.out
      rw [hk3, Int.natCast_add]
      have hN4 : N ≤ 4200 := by omega
      have E3 := hidd e3
      clear e3 hk3
      have hB5 := hB4.trans (hb5.mono hB4.size)
      have hd5 := hd4.ob hb5 (Nat.le_refl _)
      have hx5 := hx4.ob hb5
      have hy5 := hy.ob hb5
      obtain ⟨za, zc, rfl⟩ := hz.shape
      have hs1 := Src.sl (P := Tryd.prog) (tx := 22) Tryd.underlying22 hx5.sl (one_tcells L)
      have HL1 := hidd h1
      clear hx4 hy hb5 hd4 hB4 hT4 hrd3 hN
      go_wp2_with (at_builtin; refine wpList_append_ow _ rfl _ _ 22 22 rfl (fun g => w5.heap.size ≤ g) (fun _ x => x) 9 i0 _ 1 16 Tryd.underlying22 hi hz0 hz1 hz2 rfl (by decide) _ _ _ rfl (Ow.nil _ w5 9 1) _ _ _ rfl hs1 ?c3 ?c4 ?_)
      case c3 => unfold maxLen; omega
      case c4 => omega
      intro v6 w6 ho6 hg6
      have hB6 : Below w5.heap.size w5 w6 := (Below.refl _ _).grown hg6 (Nat.le_refl _) (fun k hk => by simp [Value.ownBlock] at hk)
      try simp only [Nat.zero_add, List.nil_append] at ho6
      obtain ⟨ba, bc, rfl⟩ := ho6.shape
      have hs2 := Src.sl (P := Tryd.prog) (tx := 22) Tryd.underlying22 (hy5.ob hB6).sl (one_tcells l2)
      have hz6 := hB6.size
      clear hs1 hg6
      go_wp2_with (at_builtin; refine wpList_append_ow _ rfl _ _ 22 22 rfl (fun g => w5.heap.size ≤ g) ?cF 9 i0 _ 1 16 Tryd.underlying22 hi hz0 hz1 hz2 rfl (by decide) _ _ _ rfl ho6 _ _ _ rfl hs2 ?c3 ?c4 ?_)
      case cF => intro g hg; omega
      case c3 => unfold maxLen; omega
      case c4 => omega
      intro v7 w7 ho7 hg7
      have hB7 : Below w5.heap.size w5 w7 := hB6.grown hg7 hz6 (fun k hk => (ho6.blk k hk).1)
      have et : tcells L ++ tcells l2 = tcells (L ++ l2) := by simp [tcells]
      have el : L.length + l2.length = (L ++ l2).length := by simp
      rw [et, el, ← E3.out] at ho7
      have hx7 := (hx5.ob hB7).sl
      have hz7 := (hz.ob hB7).sl
      have hd7 := hd5.ob hB7 (Nat.le_refl _)
      have hL7 := hL.ob (hB5.trans (hB7.mono hB5.size)) (Nat.le_refl _)
      have hBz := hB5.trans (hB7.mono hB5.size)
      obtain ⟨ca, cc, rfl⟩ := ho7.shape
      have ho7s := ho7.sl
      clear hs2 hg7 hB6 hz6 ho6 hx5 hy5 hz hd5 hB5 hB7 ho7 et el
      go_wp2_with fail
      refine (sameTexts_any _ _ L L _ hx7 hL7).mono ?_
      rintro e w8 ⟨rfl, hb8⟩
      have zt : decide (L = L) = true := by simp
      rw [zt]
      have hB8 := hBz.trans (hb8.mono hBz.size)
      have hd8 := hd7.ob hb8 (Nat.le_refl _)
      have hz8 := hz7.ob hb8 (Nat.le_refl _)
      have ho8 := ho7s.ob hb8 (Nat.le_refl _)
      clear hx7 hz7 hd7 hL7 hBz ho7s hb8 zt
      go_wp2_with fail
      refine (bytes_any _ _ _ _ _ _ hd8).mono ?_
      rintro e w9 ⟨rfl, rfl⟩
      have hN1 := HNN.out
      clear hd8
      go_wp2_with fail
      refine (sameTexts_any _ _ l3 l3 _ hz8 ho8).mono ?_
      rintro e w9 ⟨rfl, hb9⟩
      have zt : decide (l3 = l3) = true := by simp
      rw [zt]
      go_wp2_with fail
      go_ret
      exact ⟨rfl, hB8.trans (hb9.mono hB8.size)⟩
end Go.Proofs.YtpijgncmahbjhaaDoor
