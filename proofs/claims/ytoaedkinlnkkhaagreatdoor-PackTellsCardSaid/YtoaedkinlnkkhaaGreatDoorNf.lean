/- The contract of the document's NumberOf. Condition: sizes fit. -/
import Derived.Test.YtoaedkinlnkkhaaGreatDoorTpN
import Derived.Test.YtoaedkinlnkkhaaGreatDoorEnv
namespace Go.Proofs.YtoaedkinlnkkhaaGreatDoor
open Go.RowKit
theorem numOf_short {m : Nat} {l : List UInt8} (h : l.length < 1 ∨ m < l.length ∨ (1 < l.length ∧ l.head? = some 48)) : numOf m l = -1 := by unfold numOf; rw [if_pos h]
theorem numOf_bad {m : Nat} {l : List UInt8} {c : UInt8} (hc : c ∈ l) (hd : isDig c = false) : numOf m l = -1 := by
  unfold numOf
  split
  · rfl
  · rw [if_neg]
    intro h
    have := List.all_eq_true.1 h c hc
    rw [hd] at this
    cases this
theorem numOf_good {m : Nat} {l : List UInt8} (h : ¬ (l.length < 1 ∨ m < l.length ∨ (1 < l.length ∧ l.head? = some 48))) (hd : ∀ c ∈ l, isDig c = true) : numOf m l = (dval l : Int) := by
  unfold numOf
  rw [if_neg h, if_pos (List.all_eq_true.2 hd)]
theorem ret_i64 {a b : Int} (h : a = b) : Ending.returned (.int .i64 a) = .returned (.int .i64 b) := by rw [h]

set_option maxRecDepth 100000 in
set_option maxHeartbeats 4000000 in
theorem numberOf_any (s : ByteArray) (m : Nat) (w : World) (hm : m ≤ 9) (hs : s.size ≤ 9223372036854775807) :
    Calls Tryz.prog 87 #[.string s, .int .i64 (m : Int)] w fun e w' => e = .returned (.int .i64 (numOf m s.data.toList)) ∧ w = w' := by
  have hsz := size_toList s
  by_cases h0 : s.size < 1
  · have HN : Hid (numOf m s.data.toList = -1) := hidd (numOf_short (.inl (by omega)))
    have z : decide ((s.size : Int) < 1) = true := decide_eq_true (by omega)
    have z' : decide (s.size < 1) = true := decide_eq_true (by omega)
    clear hsz
    go_enter Tryz.func87, Tryz.ntmps87
    go_wp2_with fail
    go_ret
    exact ⟨ret_i64 HN.out.symm, rfl⟩
  · have z : decide ((s.size : Int) < 1) = false := decide_eq_false (by omega)
    have z' : decide (s.size < 1) = false := decide_eq_false (by omega)
    by_cases h1 : m < s.size
    · have HN : Hid (numOf m s.data.toList = -1) := hidd (numOf_short (.inr (.inl (by omega))))
      have y : decide ((m : Int) < (s.size : Int)) = true := decide_eq_true (by omega)
      have y' : decide (m < s.size) = true := decide_eq_true (by omega)
      clear hsz
      go_enter Tryz.func87, Tryz.ntmps87
      go_wp2_with fail
      go_ret
      exact ⟨ret_i64 HN.out.symm, rfl⟩
    · have y : decide ((m : Int) < (s.size : Int)) = false := decide_eq_false (by omega)
      have y' : decide (m < s.size) = false := decide_eq_false (by omega)
      have hlt0 : 0 < s.size := by omega
      have hhd : s.data.toList.head? = some s[0] := by
        rw [List.head?_eq_getElem?, List.getElem?_eq_getElem (by omega)]; rfl
      by_cases h2 : 1 < s.size ∧ s[0].toNat = 48
      · obtain ⟨h21, h22⟩ := h2
        have HN : Hid (numOf m s.data.toList = -1) := hidd (numOf_short (.inr (.inr ⟨by omega, by rw [hhd]; exact congrArg some (UInt8.toNat_inj.1 h22)⟩)))
        have x : decide ((1 : Int) < (s.size : Int)) = true := decide_eq_true (by omega)
        have x' : decide (1 < s.size) = true := decide_eq_true (by omega)
        have u : ((s[0].toNat : Int) == 48) = true := by simp; omega
        clear hsz hhd h22
        go_enter Tryz.func87, Tryz.ntmps87
        go_wp2_with fail
        go_ret
        exact ⟨ret_i64 HN.out.symm, rfl⟩
      · have HG : Hid (¬ (s.data.toList.length < 1 ∨ m < s.data.toList.length ∨ (1 < s.data.toList.length ∧ s.data.toList.head? = some 48))) := by
          refine hidd ?_
          rintro (e | e | ⟨e1, e2⟩)
          · omega
          · omega
          · rw [hhd] at e2
            exact h2 ⟨by omega, by rw [Option.some.inj e2]; rfl⟩
        have hd : (decide ((1 : Int) < (s.size : Int)) = false ∧ decide (1 < s.size) = false) ∨ (decide ((1 : Int) < (s.size : Int)) = true ∧ decide (1 < s.size) = true ∧ ((s[0].toNat : Int) == 48) = false) := by
          by_cases h21 : 1 < s.size
          · exact .inr ⟨decide_eq_true (by omega), decide_eq_true h21, by simp; intro e; exact h2 ⟨h21, by omega⟩⟩
          · exact .inl ⟨decide_eq_false (by omega), decide_eq_false h21⟩
        have hs9 : s.size ≤ 9 := by omega
        clear h2 hhd
        rcases hd with ⟨x, x'⟩ | ⟨x, x', u⟩
        all_goals
          go_enter Tryz.func87, Tryz.ntmps87
          go_wp2_with fail
          clear x x'
          go_loop [5, 6] (fun n i => ∃ k : Nat, k ≤ s.size ∧ i = .int .i64 (k : Int) ∧ n = .int .i64 ((dval (s.data.toList.take k) : Nat) : Int) ∧ ∀ c ∈ s.data.toList.take k, isDig c = true) (fun _ i => s.size - (intOf i).toNat)
          case atStart => exact ⟨0, by omega, rfl, rfl, by simp⟩
          case round =>
            obtain ⟨k, hk, rfl, rfl, hall⟩ := hrel
            by_cases hlt : k < s.size
            · have hts : s.data.toList.take (k + 1) = s.data.toList.take k ++ [s[k]] := by
                rw [List.take_succ_eq_append_getElem (by omega)]; rfl
              have hmem : s[k] ∈ s.data.toList := by
                have : s.data.toList[k]'(by omega) ∈ s.data.toList := List.getElem_mem _
                exact this
              obtain ⟨y, hy⟩ : ∃ y, s[k] = y := ⟨_, rfl⟩
              rw [hy] at hts hmem
              have hyb := y.toNat_lt
              have q1 : (0 : Int) ≤ (k : Int) := by omega
              have q2 : (k : Int) < (s.size : Int) := by omega
              have e1 : (s[k].toNat : Int) = (y.toNat : Int) := by rw [hy]
              have hdl := dval_lt _ hall
              have hpw : 10 ^ (s.data.toList.take k).length ≤ 10 ^ 9 := Nat.pow_le_pow_right (by omega) (by rw [List.length_take]; omega)
              have hd9 : dval (s.data.toList.take k) < 1000000000 := by omega
              have HV : Hid (dval (s.data.toList.take (k + 1)) = 10 * dval (s.data.toList.take k) + (y.toNat - 48)) := hidd (by rw [hts, dval_snoc])
              clear hdl hpw
              by_cases hdig : isDig y = true
              · obtain ⟨g1, g2⟩ := (isDig_iff y).1 hdig
                have hall' : ∀ c ∈ s.data.toList.take (k + 1), isDig c = true := fun c hc => by
                  rw [hts] at hc
                  rcases List.mem_append.1 hc with h | h
                  · exact hall c h
                  · simp at h; subst h; exact hdig
                have HA := hidd hall'
                obtain ⟨Y, hY⟩ : ∃ Y, y.toNat = Y := ⟨_, rfl⟩
                rw [hY] at e1 g1 g2 HV hyb
                obtain ⟨V, hV⟩ : ∃ V, dval (s.data.toList.take k) = V := ⟨_, rfl⟩
                rw [hV] at hd9 HV ⊢
                have r1 : decide ((Y : Int) < 48) = false := decide_eq_false (by omega)
                have r2 : decide ((57 : Int) < (Y : Int)) = false := decide_eq_false (by omega)
                have r1' : decide (Y < 48) = false := decide_eq_false (by omega)
                have r2' : decide (57 < Y) = false := decide_eq_false (by omega)
                have r3 : (48 : Int) ≤ (Y : Int) := by omega
                have r4 : (Y : Int) ≤ 57 := by omega
                have HT := hidd hts
                clear hall hall' hts hmem hdig hV hY hy hsz
                go_wp2_with fail
                go_round
                case rel => exact ⟨k + 1, by omega, by go_num, by rw [HV.out]; exact congrArg (Value.int .i64) (by omega), HA.out⟩
                case measure => simp [intOf]; omega
              · have hbad : isDig y = false := by simpa using hdig
                have HN := hidd (numOf_bad (m := m) hmem hbad)
                have hor : y.toNat < 48 ∨ (48 ≤ y.toNat ∧ 57 < y.toNat) := by
                  rcases Nat.lt_or_ge y.toNat 48 with h | h
                  · exact .inl h
                  · exact .inr ⟨h, Nat.lt_of_not_le fun h' => hdig ((isDig_iff y).2 ⟨h, h'⟩)⟩
                obtain ⟨Y, hY⟩ : ∃ Y, y.toNat = Y := ⟨_, rfl⟩
                rw [hY] at e1 hor hyb
                rcases hor with r | ⟨r0, r⟩
                · have r1 : decide ((Y : Int) < 48) = true := decide_eq_true (by omega)
                  have r1' : decide (Y < 48) = true := decide_eq_true (by omega)
                  clear hall hts hmem hdig hbad hY hy hsz HV hd9
                  go_wp2_with fail
                  go_ret
                  exact ⟨ret_i64 HN.out.symm, rfl⟩
                · have r1 : decide ((Y : Int) < 48) = false := decide_eq_false (by omega)
                  have r1' : decide (Y < 48) = false := decide_eq_false (by omega)
                  have r2 : decide ((57 : Int) < (Y : Int)) = true := decide_eq_true (by omega)
                  have r2' : decide (57 < Y) = true := decide_eq_true (by omega)
                  clear hall hts hmem hdig hbad hY hy hsz HV hd9
                  go_wp2_with fail
                  go_ret
                  exact ⟨ret_i64 HN.out.symm, rfl⟩
            · obtain rfl : k = s.size := by omega
              have ht : s.data.toList.take s.size = s.data.toList := List.take_of_length_le (by omega)
              rw [ht] at hall ⊢
              have HN := hidd (numOf_good HG.out hall)
              clear hall hsz
              go_wp2_with fail
              go_ret
              exact ⟨ret_i64 HN.out.symm, rfl⟩
end Go.Proofs.YtoaedkinlnkkhaaGreatDoor
