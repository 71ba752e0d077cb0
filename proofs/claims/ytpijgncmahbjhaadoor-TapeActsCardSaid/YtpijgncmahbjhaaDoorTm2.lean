/- The contract of the document's ReadTape. Condition: the text has at most 4000000 bytes. -/
import Derived.Test.YtpijgncmahbjhaaDoorTm
import Derived.Test.YtpijgncmahbjhaaDoorTp2
namespace Go.Proofs.YtpijgncmahbjhaaDoor
open Go.RowKit

theorem two_at {r : List UInt8} {n : Nat} (h : n + 2 ≤ r.length) : (r.drop n).take 2 = [r[n]'(by omega), r[n + 1]'(by omega)] := by
  have h1 : r.drop n = r[n]'(by omega) :: r.drop (n + 1) := List.drop_eq_getElem_cons (by omega)
  have h2 : r.drop (n + 1) = r[n + 1]'(by omega) :: r.drop (n + 2) := List.drop_eq_getElem_cons (by omega)
  rw [h1, h2]
  rfl

/-- What stands behind a colon: the text of a record, or none. -/
theorem oneL_some_at {d r : List UInt8} {n : Nat} (hd : ∀ c ∈ d, c ≠ 58) (hn : numOf 9 d = (n : Int)) (h1 : n ≤ 20000) (h2 : n + 2 ≤ r.length) (h3 : (r[n]'(by omega)).toNat = 10) (h4 : (r[n + 1]'(by omega)).toNat = 46) :
    oneL (d ++ 58 :: r) = some (r.take n) := by
  have h5 : (r.drop n).take 2 = [10, 46] := by
    rw [two_at h2, UInt8.toNat_inj.1 (h3.trans (show 10 = (10 : UInt8).toNat from rfl)), UInt8.toNat_inj.1 (h4.trans (show 46 = (46 : UInt8).toNat from rfl))]
  rw [oneL_colon d r hd, hn, Int.toNat_natCast, if_pos ⟨by omega, by omega, by omega, h5⟩]
theorem oneL_none_at {d r : List UInt8} (hd : ∀ c ∈ d, c ≠ 58) (h : numOf 9 d < 0 ∨ 20000 < numOf 9 d ∨ (r.length : Int) < numOf 9 d + 2 ∨ ∃ n : Nat, ∃ hn : n + 2 ≤ r.length, numOf 9 d = (n : Int) ∧ ((r[n]'(by omega)).toNat ≠ 10 ∨ (r[n + 1]'(by omega)).toNat ≠ 46)) :
    oneL (d ++ 58 :: r) = none := by
  rw [oneL_colon d r hd, if_neg]
  rintro ⟨g1, g2, g3, g4⟩
  rcases h with h | h | h | ⟨n, hn, he, hx⟩
  · omega
  · omega
  · omega
  · rw [he, Int.toNat_natCast, two_at hn] at g4
    simp only [List.cons.injEq, and_true] at g4
    rcases hx with hx | hx
    · exact hx (by rw [g4.1]; rfl)
    · exact hx (by rw [g4.2]; rfl)
theorem rec_len_at {d : List UInt8} {n : Nat} {s : List UInt8} (hn : numOf 9 d = (n : Int)) (hs : s.length = n) : (rec10 s).length = d.length + 3 + n ∧ rec10 s = d ++ 58 :: (s ++ [10, 46]) := by
  obtain ⟨e, he, -, -⟩ := (numOf_cases 9 d).resolve_left (by omega)
  have : dval d = n := by omega
  rw [this] at he
  have e2 : rec10 s = d ++ 58 :: (s ++ [10, 46]) := by unfold rec10; rw [hs, ← he]
  exact ⟨by rw [e2]; simp; omega, e2⟩

theorem numberOf9 (s : ByteArray) (w : World) (hs : s.size ≤ 9223372036854775807) :
    Calls Tryd.prog 26 #[.string s, .int .i64 9] w fun e w' => e = .returned (.int .i64 (numOf 9 s.data.toList)) ∧ w = w' := numberOf_any s 9 w (by omega) hs

set_option maxRecDepth 100000 in
set_option maxHeartbeats 40000000 in
theorem mread_any (b : ByteArray) (w : World) (hs : b.size ≤ 4000000) :
    Calls Tryd.prog 20 #[.string b] w (ReadPost b w) := by
  obtain ⟨i0, hi, hz0, hz1, hz2⟩ := info_parts infoStr
  go_enter Tryd.func20, Tryd.ntmps20
  go_wp2_with fail
  go_loopw [4, 5] (fun v at_ wr => ∃ (l : List ByteArray) (t : List UInt8), (b.data.toList = recs l ++ t ∧ ∀ s ∈ l, s.size ≤ 20000) ∧ at_ = .int .i64 (((recs l).length : Nat) : Int) ∧ Ow (fun g => w.heap.size ≤ g) wr 9 1 v l.length (tcells l) ∧ Below w.heap.size w wr) (fun _ at_ _ => b.size - (intOf at_).toNat)
  case atStart => exact ⟨[], b.data.toList, ⟨rfl, by simp⟩, rfl, Ow.nil _ _ _ _, Below.refl _ _⟩
  case round =>
    obtain ⟨l, t, ⟨hbl, hall⟩, rfl, hown, hb⟩ := hrel
    have hlen : (recs l).length + t.length = b.size := by rw [← size_toList, hbl]; simp
    have hle : (recs l).length ≤ b.size := by omega
    have hll : l.length ≤ (recs l).length := by
      clear hbl hall hown hlen hle
      induction l with
      | nil => simp
      | cons s l ih => rw [recs_cons]; have := rec10_len s.data.toList; simp; omega
    have hdr : b.data.toList.drop (recs l).length = t := by rw [hbl, List.drop_left]
    have HB := hidd hbl
    have HA := hidd hall
    obtain ⟨a, cap, rfl⟩ := hown.shape
    generalize hat : (recs l).length = at_ at *
    have HAT := hidd hat
    have HL := hidd hlen
    have HDR := hidd hdr
    clear hbl hall hat hlen hdr
    go_wp2_with fail
    obtain ⟨W0, hW0⟩ : ∃ W0, W0 = wr := ⟨_, rfl⟩
    rw [← hW0]
    rw [← hW0] at hown hb
    clear hW0
    go_loop [6] (fun i => ∃ k : Nat, at_ ≤ k ∧ k ≤ b.size ∧ i = .int .i64 (k : Int) ∧ ∀ c ∈ (b.data.toList.drop at_).take (k - at_), c ≠ 58) (fun i => b.size - (intOf i).toNat)
    case atStart => exact ⟨at_, Nat.le_refl _, hle, rfl, by simp⟩
    case round =>
      obtain ⟨k, hk1, hk2, rfl, hno⟩ := hrel
      have p1 : (0 : Int) ≤ (k : Int) := by omega
      by_cases hlt : k < b.size
      · have p2 : (k : Int) < (b.size : Int) := by omega
        have p3 : decide ((k : Int) < (b.size : Int)) = true := decide_eq_true (by omega)
        have p3' : decide (k < b.size) = true := decide_eq_true (by omega)
        obtain ⟨y, hy⟩ : ∃ y, b[k] = y := ⟨_, rfl⟩
        have e1 : (b[k].toNat : Int) = (y.toNat : Int) := by rw [hy]
        have hsz := size_toList b
        have hyl : b.data.toList[k]'(by omega) = y := hy
        by_cases h58 : y = 58
        · subst h58
          have r1 : ((58 : Int) != 58) = false := by decide
          have e58 : (b[k].toNat : Int) = 58 := by rw [hy]; rfl
          have hrl : (b.data.toList.drop (k + 1)).length = b.size - k - 1 := by rw [List.length_drop]; omega
          have hte : t = (b.data.toList.drop at_).take (k - at_) ++ 58 :: b.data.toList.drop (k + 1) := by
            rw [← HDR.out]
            conv => lhs; rw [← List.take_append_drop (k - at_) (b.data.toList.drop at_)]
            have hk' : b.data.toList.drop k = 58 :: b.data.toList.drop (k + 1) := by rw [List.drop_eq_getElem_cons (l := b.data.toList) (i := k) (by omega), hyl]
            rw [List.drop_drop, show at_ + (k - at_) = k by omega, hk']
          obtain ⟨D, hD⟩ : ∃ D : ByteArray, b.extract at_ k = D := ⟨_, rfl⟩
          have hDl : D.data.toList = (b.data.toList.drop at_).take (k - at_) := by rw [← hD, Lib.extract_data]
          have hDs : D.size = k - at_ := by rw [← size_toList, hDl, List.length_take, List.length_drop]; omega
          rw [← hDl] at hno hte
          obtain ⟨V, hV⟩ : ∃ V, numOf 9 D.data.toList = V := ⟨_, rfl⟩
          have hVc := numOf_cases 9 D.data.toList
          rw [hV] at hVc
          obtain ⟨r, hr⟩ : ∃ r, b.data.toList.drop (k + 1) = r := ⟨_, rfl⟩
          rw [hr] at hrl hte
          have HNO := hidd hno
          have HTE := hidd hte
          have HV := hidd hV
          have HR := hidd hr
          have HRL := hidd hrl
          have p4 : (at_ : Int) ≤ (k : Int) := by omega
          have p5 : (0 : Int) ≤ (at_ : Int) := by omega
          have p6 : (k : Int) ≤ (b.size : Int) := by omega
          have p7 : ((k : Int) == (b.size : Int)) = false := by simp; omega
          have hks : D.size ≤ 9223372036854775807 := by omega
          have hVb : -1 ≤ V ∧ V < 1000000000 := by
            rcases hVc with h | ⟨h, he, hl9, -⟩
            · omega
            · have := dval_lt D.data.toList (fun c hc => by rw [he] at hc; exact (isDig_iff c).2 (dec_digit _ c hc))
              have h10 : 10 ^ D.data.toList.length ≤ 10 ^ 9 := Nat.pow_le_pow_right (by omega) hl9
              omega
          obtain ⟨v0, v1⟩ := hVb
          clear hno hte hV hVc hr hrl hDl hy hyl hsz e1 hDs
          go_wp2_with fail
          refine (numberOf9 D _ hks).mono ?_
          rintro e W1 ⟨rfl, rfl⟩
          rw [HV.out]
          by_cases c0 : V < 0
          · have z : decide (V < 0) = true := decide_eq_true c0
            have HO : Hid (oneL t = none) := hidd (by rw [HTE.out]; exact oneL_none_at HNO.out (.inl (by rw [HV.out]; exact c0)))
            go_wp2_with fail
            go_ret2
            exact ⟨⟨l, t, _, ⟨HB.out, HA.out, HO.out⟩, by rw [HAT.out]; rfl, hown⟩, hb⟩
          · have z : decide (V < 0) = false := decide_eq_false c0
            obtain ⟨n, rfl⟩ := Int.eq_ofNat_of_zero_le (show 0 ≤ V by omega)
            by_cases c1 : 20000 < n
            · have y1 : decide ((20000 : Int) < (n : Int)) = true := decide_eq_true (by omega)
              have y1' : decide (20000 < n) = true := decide_eq_true c1
              have HO : Hid (oneL t = none) := hidd (by rw [HTE.out]; exact oneL_none_at HNO.out (.inr (.inl (by rw [HV.out]; omega))))
              go_wp2_with fail
              go_ret2
              exact ⟨⟨l, t, _, ⟨HB.out, HA.out, HO.out⟩, by rw [HAT.out]; rfl, hown⟩, hb⟩
            · have y1 : decide ((20000 : Int) < (n : Int)) = false := decide_eq_false (by omega)
              have y1' : decide (20000 < n) = false := decide_eq_false c1
              by_cases c2 : b.size < k + n + 3
              · have x1 : decide ((b.size : Int) - (k : Int) - 1 < (n : Int) + 2) = true := decide_eq_true (by omega)
                have x1' : (b.size : Int) - (k : Int) - 1 < (n : Int) + 2 := by omega
                have HO : Hid (oneL t = none) := hidd (by rw [HTE.out]; exact oneL_none_at HNO.out (.inr (.inr (.inl (by rw [HV.out, HRL.out]; omega)))))
                go_wp2_with fail
                go_ret2
                exact ⟨⟨l, t, _, ⟨HB.out, HA.out, HO.out⟩, by rw [HAT.out]; rfl, hown⟩, hb⟩
              · have x1 : decide ((b.size : Int) - (k : Int) - 1 < (n : Int) + 2) = false := decide_eq_false (by omega)
                have x1' : ¬ ((b.size : Int) - (k : Int) - 1 < (n : Int) + 2) := by omega
                have hnr : n + 2 ≤ r.length := by rw [HRL.out]; omega
                have g1 : k + 1 + n < b.size := by omega
                have g2 : k + 2 + n < b.size := by omega
                have hsz := size_toList b
                have er1 : r[n]? = some (b[k + 1 + n]'g1) := by
                  rw [← HR.out, List.getElem?_drop, List.getElem?_eq_getElem (by omega)]; rfl
                have er2 : r[n + 1]? = some (b[k + 2 + n]'g2) := by
                  rw [← HR.out, List.getElem?_drop, show k + 1 + (n + 1) = k + 2 + n by omega, List.getElem?_eq_getElem (by omega)]; rfl
                rw [List.getElem?_eq_getElem (by omega)] at er1 er2
                obtain ⟨Y1, hY1⟩ : ∃ Y, (b[k + 1 + n]'g1).toNat = Y := ⟨_, rfl⟩
                obtain ⟨Y2, hY2⟩ : ∃ Y, (b[k + 2 + n]'g2).toNat = Y := ⟨_, rfl⟩
                have hr1 : (r[n]'(by omega)).toNat = Y1 := by rw [Option.some.inj er1]; exact hY1
                have hr2 : (r[n + 1]'(by omega)).toNat = Y2 := by rw [Option.some.inj er2]; exact hY2
                have hsl : ∀ wx : World, (Instr.slice 9 (.string b) (some (.int .i64 ((k : Int) + 1))) (some (.int .i64 ((k : Int) + 1 + (n : Int)))) none).run Tryd.prog wx = .ok (.string (b.extract (k + 1) (k + 1 + n))) wx := fun wx => by
                  have := run_slice_string (P := Tryd.prog) wx 9 b .i64 .i64 ((k : Int) + 1) ((k : Int) + 1 + (n : Int)) Tryd.underlying9 (by omega) (by omega) (by omega)
                  rw [this]
                  rfl
                obtain ⟨S, hS⟩ : ∃ S, b.extract (k + 1) (k + 1 + n) = S := ⟨_, rfl⟩
                have hSl : S.data.toList = r.take n := by rw [← hS, Lib.extract_data, HR.out, show k + 1 + n - (k + 1) = n by omega]
                rw [hS] at hsl
                have i1 : ((b[k + 1 + n]'g1).toNat : Int) = (Y1 : Int) := by rw [hY1]
                have i2 : ((b[k + 2 + n]'g2).toNat : Int) = (Y2 : Int) := by rw [hY2]
                have p8 : (k : Int) + 1 + (n : Int) < (b.size : Int) := by omega
                have p9 : (k : Int) + 2 + (n : Int) < (b.size : Int) := by omega
                have p10 : (0 : Int) ≤ (k : Int) + 1 + (n : Int) := by omega
                have p11 : (0 : Int) ≤ (k : Int) + 2 + (n : Int) := by omega
                have HSL := hidd hSl
                clear hsz er1 er2 hY1 hY2 hS hSl
                by_cases h10 : Y1 = 10
                · have x2 : ((Y1 : Int) != 10) = false := by simp; omega
                  by_cases h46 : Y2 = 46
                  · have x3 : ((Y2 : Int) != 46) = false := by simp; omega
                    have hSs : (r.take n).length = n := by rw [List.length_take]; omega
                    have HO : Hid (oneL t = some (r.take n)) := hidd (by rw [HTE.out]; exact oneL_some_at HNO.out HV.out (by omega) hnr (by rw [hr1]; exact h10) (by rw [hr2]; exact h46))
                    obtain ⟨hrl, -⟩ := rec_len_at HV.out hSs
                    have hSz : S.size ≤ 20000 := by rw [← size_toList, HSL.out, hSs]; omega
                    obtain ⟨-, r', hr'⟩ := oneL_some t _ HO.out
                    have hDk : D.data.toList.length = k - at_ := by
                      have h1 := congrArg List.length HTE.out
                      have h2 := HL.out
                      have h3 := HRL.out
                      rw [List.length_append, List.length_cons] at h1
                      omega
                    have hnew : at_ + (rec10 (r.take n)).length = k + 3 + n := by omega
                    have HR' := hidd hr'
                    have HNW := hidd hnew
                    have hs1 := Src.new (P := Tryd.prog) (size := 1) (tx := 22) Tryd.underlying22 W0 W0.heap.size rfl [.string S] 9 rfl (by intro u hu; simp at hu; subst hu; rfl) 1
                    have how1 := hown.alloc (.cells #[.string S] 9)
                    have hz1' := hb.size
                    clear hr1 hr2 hr' hnew hSs hrl hDk
                    go_wp2_with (at_builtin; refine wpList_append_ow _ rfl _ _ 22 22 rfl (fun g => w.heap.size ≤ g) ?cF 9 i0 _ 1 16 Tryd.underlying22 hi hz0 hz1 hz2 rfl (by decide) _ _ _ rfl how1 _ _ _ rfl hs1 ?c3 ?c4 ?_)
                    case cF => intro g hg; simp at hg; omega
                    case c3 => unfold maxLen; omega
                    case c4 => omega
                    intro v' w2 hown2 hgrow
                    have hB2 : Below w.heap.size w w2 := (hb.alloc hz1' _).grown hgrow (by simp; omega) (fun k hk => (hown.blk k hk).1)
                    obtain ⟨a', cap', rfl⟩ := hown2.shape
                    clear how1 hs1 hgrow hown hb
                    go_wp2_with fail
                    go_roundw
                    case rel =>
                      refine ⟨l ++ [S], r', ⟨?_, ?_⟩, ?_, by simpa [tcells] using hown2, hB2⟩
                      · rw [recs_app, recs_one, List.append_assoc, HSL.out, ← HR'.out]; exact HB.out
                      · intro s' hs'
                        rcases List.mem_append.1 hs' with h | h
                        · exact HA.out s' h
                        · simp at h; subst h; exact hSz
                      · rw [recs_app, recs_one, List.length_append, HAT.out, HSL.out, HNW.out]; exact congrArg (Value.int .i64) (by omega)
                    case measure => simp [intOf]; omega
                  · have HO : Hid (oneL t = none) := hidd (by rw [HTE.out]; exact oneL_none_at HNO.out (.inr (.inr (.inr ⟨n, hnr, by rw [HV.out], .inr (by rw [hr2]; exact h46)⟩))))
                    have x3 : ((Y2 : Int) != 46) = true := by rw [bne_iff_ne]; omega
                    clear hr1 hr2
                    go_wp2_with fail
                    go_ret2
                    exact ⟨⟨l, t, _, ⟨HB.out, HA.out, HO.out⟩, by rw [HAT.out]; rfl, hown⟩, hb⟩
                · have HO : Hid (oneL t = none) := hidd (by rw [HTE.out]; exact oneL_none_at HNO.out (.inr (.inr (.inr ⟨n, hnr, by rw [HV.out], .inl (by rw [hr1]; exact h10)⟩))))
                  have x2 : ((Y1 : Int) != 10) = true := by rw [bne_iff_ne]; omega
                  clear hr1 hr2
                  go_wp2_with fail
                  go_ret2
                  exact ⟨⟨l, t, _, ⟨HB.out, HA.out, HO.out⟩, by rw [HAT.out]; rfl, hown⟩, hb⟩
        · have hno' : ∀ c ∈ (b.data.toList.drop at_).take (k + 1 - at_), c ≠ 58 := by
            rw [show k + 1 - at_ = (k - at_) + 1 by omega, List.take_succ_eq_append_getElem (by rw [List.length_drop]; omega)]
            intro c hc
            rcases List.mem_append.1 hc with h | h
            · exact hno c h
            · simp only [List.mem_singleton, List.getElem_drop] at h
              rw [h]
              have : at_ + (k - at_) = k := by omega
              simp only [this]
              rw [hyl]; exact h58
          have HN := hidd hno'
          have hyn : y.toNat ≠ 58 := fun e => h58 (UInt8.toNat_inj.1 e)
          have r1 : ((y.toNat : Int) != 58) = true := by rw [bne_iff_ne]; omega
          obtain ⟨Y, hY⟩ : ∃ Y, y.toNat = Y := ⟨_, rfl⟩
          rw [hY] at e1 r1 hyn
          clear hno hno' hy hyl hsz h58 hY
          go_wp2_with fail
          go_round
          case rel => exact ⟨k + 1, by omega, by omega, by go_num, HN.out⟩
          case measure => simp [intOf]; omega
      · obtain rfl : k = b.size := by omega
        have hno2 : ∀ c ∈ t, c ≠ 58 := by
          have e : (b.data.toList.drop at_).take (b.size - at_) = t := by
            rw [HDR.out, List.take_of_length_le (by have := HL.out; omega)]
          rw [e] at hno
          exact hno
        have HO := hidd (oneL_nocolon t hno2)
        clear hno hno2
        go_wp2_with fail
        go_ret2
        exact ⟨⟨l, t, _, ⟨HB.out, HA.out, HO.out⟩, by rw [HAT.out]; rfl, hown⟩, hb⟩
end Go.Proofs.YtpijgncmahbjhaaDoor
