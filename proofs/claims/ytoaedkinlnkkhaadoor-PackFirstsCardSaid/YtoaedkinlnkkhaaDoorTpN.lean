/- A number's digits, read by hand: the value of digits, and that they are the number's own. No condition. -/
import Derived.Test.YtoaedkinlnkkhaaDoorTpL
namespace Go.Proofs.YtoaedkinlnkkhaaDoor
open Go.Lib

/-- The value of digits. -/
def dval (l : List UInt8) : Nat := l.foldl (fun n c => 10 * n + (c.toNat - 48)) 0
theorem dval_snoc (l : List UInt8) (c : UInt8) : dval (l ++ [c]) = 10 * dval l + (c.toNat - 48) := by simp [dval]
def isDig (c : UInt8) : Bool := 48 ≤ c && c ≤ 57
theorem isDig_iff (c : UInt8) : isDig c = true ↔ 48 ≤ c.toNat ∧ c.toNat ≤ 57 := by
  simp [isDig, UInt8.le_iff_toNat_le]
theorem dval_dec (u : Nat) : dval (decDigits u) = u := by
  induction u using Nat.strongRecOn with
  | _ u ih =>
    have e : ∀ d, d < 10 → (UInt8.ofNat (48 + d)).toNat = 48 + d := fun d hd => by simp; omega
    rw [decDigits]
    split
    · rename_i h; simp [dval]; omega
    · rename_i h
      rw [dval_snoc, ih (u / 10) (by omega), e _ (by omega)]
      omega
theorem snoc_ind {P : List UInt8 → Prop} (h0 : P []) (h1 : ∀ l c, P l → P (l ++ [c])) : ∀ l, P l := fun l => by
  have : ∀ n (l : List UInt8), l.length = n → P l := by
    intro n
    induction n with
    | zero => intro l hl; rw [List.eq_nil_of_length_eq_zero hl]; exact h0
    | succ n ih =>
      intro l hl
      have hne : l ≠ [] := fun e => by simp [e] at hl
      rw [← List.dropLast_concat_getLast hne]
      exact h1 _ _ (ih _ (by simp [hl]))
  exact this _ l rfl
theorem dec_of_ofNat (c : UInt8) (h : isDig c = true) : UInt8.ofNat (48 + (c.toNat - 48)) = c := by
  rw [isDig_iff] at h
  apply UInt8.toNat_inj.1
  simp
  omega
theorem dval_lt : ∀ l : List UInt8, (∀ c ∈ l, isDig c = true) → dval l < 10 ^ l.length := by
  refine snoc_ind (by simp [dval]) (fun l c ih h => ?_)
  rw [dval_snoc, List.length_append, List.length_singleton, Nat.pow_succ]
  have h1 := ih (fun x hx => h x (by simp [hx]))
  have h2 := (isDig_iff c).1 (h c (by simp))
  omega
theorem dval_pos : ∀ l : List UInt8, l ≠ [] → (∀ c ∈ l, isDig c = true) → l.head? ≠ some 48 → 1 ≤ dval l := by
  refine snoc_ind (fun h => absurd rfl h) (fun l c ih _ hd h0 => ?_)
  rw [dval_snoc]
  by_cases hl : l = []
  · subst hl
    have h2 := (isDig_iff c).1 (hd c (by simp))
    have : c ≠ 48 := fun e => h0 (by simp [e])
    have : c.toNat ≠ 48 := fun e => this (UInt8.toNat_inj.1 e)
    omega
  · have hh : (l ++ [c]).head? = l.head? := by cases l with | nil => exact absurd rfl hl | cons a b => rfl
    have := ih hl (fun x hx => hd x (by simp [hx])) (hh ▸ h0)
    omega
theorem dec_dval : ∀ l : List UInt8, l ≠ [] → (∀ c ∈ l, isDig c = true) → (l.head? = some 48 → l.length = 1) → decDigits (dval l) = l := by
  refine snoc_ind (fun h => absurd rfl h) (fun l c ih _ hd h0 => ?_)
  rw [dval_snoc]
  have hc := hd c (by simp)
  have h2 := (isDig_iff c).1 hc
  by_cases hl : l = []
  · subst hl
    have e : 10 * dval [] + (c.toNat - 48) = c.toNat - 48 := by simp [dval]
    rw [e, decDigits_one (by omega), dec_of_ofNat c hc]
    rfl
  · have hh : (l ++ [c]).head? = l.head? := by cases l with | nil => exact absurd rfl hl | cons a b => rfl
    have hlp : 0 < l.length := by
      rcases Nat.eq_zero_or_pos l.length with h | h
      · exact absurd (List.eq_nil_of_length_eq_zero h) hl
      · exact h
    have h48 : l.head? ≠ some 48 := fun e => by
      have := h0 (hh ▸ e)
      simp at this
      exact hl this
    have hp := dval_pos l hl (fun x hx => hd x (by simp [hx])) h48
    rw [decDigits, dif_neg (by omega)]
    have e1 : (10 * dval l + (c.toNat - 48)) / 10 = dval l := by omega
    have e2 : (10 * dval l + (c.toNat - 48)) % 10 = c.toNat - 48 := by omega
    rw [e1, e2, dec_of_ofNat c hc, ih hl (fun x hx => hd x (by simp [hx])) (fun e => absurd e h48)]

/-- What the reference's NumberOf says of at most m digits. -/
def numOf (m : Nat) (l : List UInt8) : Int :=
  if l.length < 1 ∨ m < l.length ∨ (1 < l.length ∧ l.head? = some 48) then -1 else if l.all isDig then (dval l : Int) else -1
theorem numOf_cases (m : Nat) (l : List UInt8) : (numOf m l = -1) ∨ (numOf m l = (dval l : Int) ∧ l = decDigits (dval l) ∧ l.length ≤ m ∧ 1 ≤ l.length) := by
  unfold numOf
  split
  · exact .inl rfl
  · rename_i h
    split
    · rename_i hd
      refine .inr ⟨rfl, (dec_dval l (fun e => h (.inl (by simp [e]))) (fun c hc => List.all_eq_true.1 hd c hc) (fun e => ?_)).symm, by omega, by omega⟩
      by_cases h1 : 1 < l.length
      · exact absurd (.inr (.inr ⟨h1, e⟩)) h
      · omega
    · exact .inl rfl
theorem head_dec (u : Nat) (h : 1 < (decDigits u).length) : (decDigits u).head? ≠ some 48 := by
  induction u using Nat.strongRecOn with
  | _ u ih =>
    by_cases hu : u < 10
    · rw [decDigits_one hu] at h; simp at h
    · rw [decDigits, dif_neg hu] at h ⊢
      have hne := dec_ne (u / 10)
      have hh : (decDigits (u / 10) ++ [UInt8.ofNat (48 + u % 10)]).head? = (decDigits (u / 10)).head? := by
        cases hx : decDigits (u / 10) with
        | nil => exact absurd hx hne
        | cons a b => rfl
      rw [hh]
      by_cases h9 : u / 10 < 10
      · rw [decDigits_one h9]
        intro e
        simp at e
        have := congrArg UInt8.toNat e
        simp at this
        omega
      · exact ih (u / 10) (by omega) (by
          rw [decDigits, dif_neg h9, List.length_append]
          have := dec_ne (u / 10 / 10)
          rcases Nat.eq_zero_or_pos (decDigits (u / 10 / 10)).length with h | h
          · exact absurd (List.eq_nil_of_length_eq_zero h) this
          · simp; omega)
theorem numOf_dec (m u : Nat) (h : (decDigits u).length ≤ m) : numOf m (decDigits u) = (u : Int) := by
  have hp : 1 ≤ (decDigits u).length := by
    rcases Nat.eq_zero_or_pos (decDigits u).length with h | h
    · exact absurd (List.eq_nil_of_length_eq_zero h) (dec_ne u)
    · exact h
  unfold numOf
  rw [if_neg, if_pos, dval_dec]
  · rw [List.all_eq_true]
    intro c hc
    exact (isDig_iff c).2 (dec_digit u c hc)
  · rintro (h1 | h1 | ⟨h1, h2⟩)
    · omega
    · omega
    · exact head_dec u h1 h2

/-- A record at the beginning, by the place of its colon. -/
theorem oneL_colon (d r : List UInt8) (hd : ∀ c ∈ d, c ≠ 58) :
    oneL (d ++ 58 :: r) = if 0 ≤ numOf 9 d ∧ numOf 9 d ≤ 20000 ∧ numOf 9 d + 2 ≤ (r.length : Int) ∧ (r.drop (numOf 9 d).toNat).take 2 = [10, 46] then some (r.take (numOf 9 d).toNat) else none := by
  have hc := cut_colon d r hd
  have hn := numOf_cases 9 d
  split
  · rename_i h
    obtain ⟨h1, h2, h3, h4⟩ := h
    obtain ⟨e, he, hl, -⟩ := hn.resolve_left (by omega)
    rw [e] at h1 h2 h3 h4 ⊢
    unfold oneL
    rw [hc]
    simp only [if_true]
    conv => lhs; rw [show atoiAll d = .ok (dval d : Int) by conv => lhs; rw [he]
                                                            exact atoi_dec _ (by omega)]
    simp only
    rw [if_pos ⟨hl, h1, by rw [itoa_nonneg]; exact he.symm, h2, h3, h4⟩]
  · rename_i h
    cases ho : oneL (d ++ 58 :: r) with
    | none => rfl
    | some s =>
      exfalso
      unfold oneL at ho
      rw [hc] at ho
      simp only [if_true] at ho
      split at ho
      · rename_i v hv
        split at ho
        · rename_i hh
          obtain ⟨h1, h2, h3, h4, h5, h6⟩ := hh
          obtain ⟨n, rfl⟩ := Int.eq_ofNat_of_zero_le h2
          rw [itoa_nonneg] at h3
          have e : numOf 9 d = (n : Int) := by rw [← h3]; exact numOf_dec 9 n (by rw [h3]; exact h1)
          rw [e] at h
          exact h ⟨h2, h4, h5, h6⟩
        · cases ho
      · cases ho
theorem oneL_nocolon (b : List UInt8) (h : ∀ c ∈ b, c ≠ 58) : oneL b = none := by
  rcases cut_cases b with hc | ⟨d, r, hb, hc⟩
  · unfold oneL; rw [hc]; rfl
  · exact absurd rfl (h 58 (by rw [hb]; simp))
end Go.Proofs.YtoaedkinlnkkhaaDoor
