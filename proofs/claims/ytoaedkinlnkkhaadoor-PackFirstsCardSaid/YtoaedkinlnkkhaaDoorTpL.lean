/- Records of a tape, in plain words: what a record is, when a text begins with one, and that records are told in one way alone. No condition. -/
import Derived.Lib.AtoiAllCases
import Derived.Lib.ItoaNum
import Derived.Lib.CutLaws
import Derived.Lib.ItoaMem
namespace Go.Proofs.YtoaedkinlnkkhaaDoor
open Go.Lib

/-- The record of a text. -/
def rec10 (s : List UInt8) : List UInt8 := decDigits s.length ++ (58 :: (s ++ [10, 46]))

/-- The text of the record that stands at the beginning; none: there is none. -/
def oneL (b : List UInt8) : Option (List UInt8) :=
  if (cut b [58]).2.2 = true then
    match atoiAll (cut b [58]).1 with
    | .ok v => if (cut b [58]).1.length ≤ 9 ∧ 0 ≤ v ∧ itoa v = (cut b [58]).1 ∧ v ≤ 20000 ∧ v + 2 ≤ ((cut b [58]).2.1.length : Int) ∧ ((cut b [58]).2.1.drop v.toNat).take 2 = [10, 46] then some ((cut b [58]).2.1.take v.toNat) else none
    | _ => none
  else none

theorem dec_digit (u : Nat) : ∀ c ∈ decDigits u, 48 ≤ c.toNat ∧ c.toNat ≤ 57 := by
  induction u using Nat.strongRecOn with
  | _ u ih =>
    intro c hc
    rw [decDigits] at hc
    have e : ∀ d, d < 10 → (UInt8.ofNat (48 + d)).toNat = 48 + d := fun d hd => by simp; omega
    split at hc
    · simp only [List.mem_singleton] at hc; subst hc; rw [e u (by assumption)]; omega
    · rcases List.mem_append.1 hc with h | h
      · exact ih (u / 10) (by omega) c h
      · simp only [List.mem_singleton] at h; subst h; rw [e _ (by omega)]; omega
theorem dec_ne (u : Nat) : decDigits u ≠ [] := by
  rw [decDigits]; split <;> simp

theorem parse_app : ∀ (l1 l2 : List UInt8) (a u : Nat), parseUint10 a l1 = .ok u → parseUint10 a (l1 ++ l2) = parseUint10 u l2
  | [], l2, a, u, h => by simp only [parseUint10] at h; injection h with h; subst h; rfl
  | c :: r, l2, a, u, h => by
    simp only [parseUint10] at h
    simp only [List.cons_append, parseUint10]
    split at h
    · rename_i h1
      rw [if_pos h1]
      split at h
      · cases h
      · rename_i h2
        rw [if_neg h2]
        split at h
        · cases h
        · rename_i h3
          rw [if_neg h3]
          exact parse_app r l2 _ u h
    · cases h
theorem parse_dec (u : Nat) (hu : u < 1000000000) : parseUint10 0 (decDigits u) = .ok u := by
  induction u using Nat.strongRecOn with
  | _ u ih =>
    have e : ∀ d, d < 10 → (UInt8.ofNat (48 + d)).toNat = 48 + d := fun d hd => by simp; omega
    have one : ∀ a d, d < 10 → a < 184467440737095516 → parseUint10 a [UInt8.ofNat (48 + d)] = .ok (a * 10 + d) := fun a d hd ha => by
      simp only [parseUint10, e d hd]
      rw [if_pos (by omega), if_neg (by omega), if_neg (by omega)]
      congr 1; omega
    rw [decDigits]
    split
    · rename_i h; rw [one 0 u h (by omega)]; simp
    · rename_i h
      rw [parse_app _ _ _ _ (ih (u / 10) (by omega) (by omega)), one _ _ (by omega) (by omega)]
      congr 1; omega
theorem atoi_dec (u : Nat) (hu : u < 1000000000) : atoiAll (decDigits u) = .ok (u : Int) := by
  have hd := dec_digit u
  have hp := parse_dec u (by omega)
  cases hl : decDigits u with
  | nil => exact absurd hl (dec_ne u)
  | cons c r =>
    rw [hl] at hp hd
    have hc := hd c (by simp)
    rw [atoiAll_plain c r (by omega) (by omega)]
    unfold parseMag
    rw [if_neg (by simp), hp]
    unfold signless
    simp
    omega

theorem index_colon : ∀ (d r : List UInt8), (∀ c ∈ d, c ≠ 58) → index (d ++ 58 :: r) [58] = (d.length : Int)
  | [], r, _ => by simp [index]
  | c :: d, r, h => by
    have hc : c ≠ 58 := h c (by simp)
    have ih := index_colon d r (fun x hx => h x (by simp [hx]))
    simp only [List.cons_append, index, List.isPrefixOf, ih]
    rw [if_neg (by simp; exact fun e => hc e.symm), if_neg (by simp)]
    simp
theorem cut_colon (d r : List UInt8) (h : ∀ c ∈ d, c ≠ 58) : cut (d ++ 58 :: r) [58] = (d, r, true) := by
  unfold cut
  rw [index_colon d r h, if_pos (by omega)]
  simp
theorem index_miss : ∀ (b : List UInt8), index b [58] = -1 ∨ ∃ d r, b = d ++ 58 :: r ∧ (∀ c ∈ d, c ≠ 58)
  | [] => .inl (by simp [index])
  | c :: b => by
    by_cases hc : c = 58
    · exact .inr ⟨[], b, by simp [hc], by simp⟩
    · rcases index_miss b with h | ⟨d, r, rfl, h⟩
      · left
        simp only [index, List.isPrefixOf, h]
        rw [if_neg (by simp; exact fun e => hc e.symm)]
        simp
      · exact .inr ⟨c :: d, r, rfl, fun x hx => by
          rcases List.mem_cons.1 hx with rfl | hx
          · exact hc
          · exact h x hx⟩
theorem cut_cases (b : List UInt8) : (cut b [58] = (b, [], false)) ∨ ∃ d r, b = d ++ 58 :: r ∧ cut b [58] = (d, r, true) := by
  rcases index_miss b with h | ⟨d, r, rfl, h⟩
  · left; unfold cut; rw [h, if_neg (by omega)]
  · exact .inr ⟨d, r, rfl, cut_colon d r h⟩

theorem oneL_rec (s r : List UInt8) (hs : s.length ≤ 20000) : oneL (rec10 s ++ r) = some s := by
  have e : rec10 s ++ r = decDigits s.length ++ 58 :: (s ++ [10, 46] ++ r) := by simp [rec10]
  have hc : cut (rec10 s ++ r) [58] = (decDigits s.length, s ++ [10, 46] ++ r, true) := by
    rw [e]
    exact cut_colon _ _ (fun c hc h => by have := dec_digit _ c hc; subst h; simp at this)
  have hl : (decDigits s.length).length ≤ 9 := by
    rw [decDigits_length]
    rcases Nat.lt_or_ge 9 (nDigits s.length) with h | h
    · exfalso
      have e1 := nDigits_unique (nDigits s.length - 1) s.length
      have : ∀ k u, u < 10 ^ (k + 1) → nDigits u ≤ k + 1 := by
        intro k
        induction k with
        | zero => intro u hu; rw [nDigits_small (by omega)]; omega
        | succ k ih =>
          intro u hu
          by_cases hu9 : u < 10
          · rw [nDigits_small hu9]; omega
          · rw [nDigits_big hu9]
            have := ih (u / 10) (by rw [Nat.pow_succ] at hu; omega)
            omega
      have := this 4 s.length (by omega)
      omega
    · exact h
  unfold oneL
  rw [hc]
  simp only [if_true]
  rw [atoi_dec _ (by omega)]
  simp only [Int.toNat_natCast]
  rw [if_pos ⟨hl, by omega, itoa_nonneg _, by omega, by simp; omega, by simp⟩]
  simp

theorem oneL_some (b s : List UInt8) (h : oneL b = some s) : s.length ≤ 20000 ∧ ∃ r, b = rec10 s ++ r := by
  unfold oneL at h
  rcases cut_cases b with hc | ⟨d, r, hb, hc⟩
  · rw [hc] at h; simp at h
  · rw [hc] at h
    simp only [if_true] at h
    split at h
    · rename_i v hv
      split at h
      · rename_i hh
        obtain ⟨h1, h2, h3, h4, h5, h6⟩ := hh
        injection h with h
        obtain ⟨n, rfl⟩ := Int.eq_ofNat_of_zero_le h2
        simp only [Int.toNat_natCast] at h h6
        rw [itoa_nonneg] at h3
        have hl : s.length = n := by rw [← h, List.length_take]; omega
        refine ⟨by omega, r.drop (n + 2), ?_⟩
        have er : r = r.take n ++ ((r.drop n).take 2 ++ r.drop (n + 2)) := by
          rw [← List.drop_drop, List.take_append_drop, List.take_append_drop]
        rw [hb]
        conv => lhs; rw [er, h6, ← h3]
        rw [h]
        simp [rec10, hl]
      · cases h
    · cases h

theorem rec10_len (s : List UInt8) : 4 ≤ (rec10 s).length ∧ s.length + 3 ≤ (rec10 s).length := by
  have : 1 ≤ (decDigits s.length).length := by
    rcases Nat.eq_zero_or_pos (decDigits s.length).length with h | h
    · exact absurd (List.eq_nil_of_length_eq_zero h) (dec_ne _)
    · exact h
  simp [rec10]; omega

theorem oneL_iff (b s : List UInt8) : oneL b = some s ↔ s.length ≤ 20000 ∧ ∃ r, b = rec10 s ++ r :=
  ⟨oneL_some b s, fun ⟨hs, r, e⟩ => by rw [e]; exact oneL_rec s r hs⟩

/-- The bytes of records one behind the other. -/
def recs (l : List ByteArray) : List UInt8 := (l.map fun s => rec10 s.data.toList).flatten
theorem recs_nil : recs [] = [] := rfl
theorem recs_app (a b : List ByteArray) : recs (a ++ b) = recs a ++ recs b := by simp [recs]
theorem recs_one (s : ByteArray) : recs [s] = rec10 s.data.toList := by simp [recs]
theorem recs_cons (s : ByteArray) (l : List ByteArray) : recs (s :: l) = rec10 s.data.toList ++ recs l := by simp [recs]

/-- b is the records l, and behind them what begins with none. -/
def Rd (b : List UInt8) (l : List ByteArray) (t : List UInt8) : Prop := b = recs l ++ t ∧ (∀ s ∈ l, s.size ≤ 20000) ∧ oneL t = none

theorem ba_ext {a b : ByteArray} (h : a.data.toList = b.data.toList) : a = b := by
  cases a; cases b; simp at h; simp [h]
theorem size_toList (s : ByteArray) : s.data.toList.length = s.size := (size_eq s).symm

theorem Rd.uniq : ∀ {b : List UInt8} {l l' : List ByteArray} {t t' : List UInt8}, Rd b l t → Rd b l' t' → l = l' ∧ t = t'
  | b, [], [], t, t', h, h' => ⟨rfl, by have := h.1; have := h'.1; simp_all [recs]⟩
  | b, [], s :: l', t, t', h, h' => by
    have e := h'.1
    rw [recs_cons, List.append_assoc] at e
    have h1 := oneL_rec s.data.toList (recs l' ++ t') (by rw [size_toList]; exact h'.2.1 s (by simp))
    rw [← e, show b = t by simpa [recs] using h.1, h.2.2] at h1
    cases h1
  | b, s :: l, [], t, t', h, h' => by
    have e := h.1
    rw [recs_cons, List.append_assoc] at e
    have h1 := oneL_rec s.data.toList (recs l ++ t) (by rw [size_toList]; exact h.2.1 s (by simp))
    rw [← e, show b = t' by simpa [recs] using h'.1, h'.2.2] at h1
    cases h1
  | b, s :: l, s' :: l', t, t', h, h' => by
    have e := h.1
    have e' := h'.1
    rw [recs_cons, List.append_assoc] at e e'
    have h1 := oneL_rec s.data.toList (recs l ++ t) (by rw [size_toList]; exact h.2.1 s (by simp))
    have h2 := oneL_rec s'.data.toList (recs l' ++ t') (by rw [size_toList]; exact h'.2.1 s' (by simp))
    rw [← e] at h1
    rw [← e', h1] at h2
    have hs : s = s' := ba_ext (by simpa using h2)
    subst hs
    rw [e] at e'
    have e2 := List.append_cancel_left e'
    have := Rd.uniq (b := recs l ++ t) (l := l) (l' := l') (t := t) (t' := t') ⟨rfl, fun x hx => h.2.1 x (by simp [hx]), h.2.2⟩ ⟨e2, fun x hx => h'.2.1 x (by simp [hx]), h'.2.2⟩
    exact ⟨by rw [this.1], this.2⟩

/-- What is ahead of a record's end is none. -/
theorem oneL_torn (s p q : List UInt8) (hs : s.length ≤ 20000) (h : rec10 s = p ++ q) (hq : q ≠ []) : oneL p = none := by
  cases hp : oneL p with
  | none => rfl
  | some s' =>
    obtain ⟨h1, r, e⟩ := oneL_some p s' hp
    have h2 := oneL_rec s' (r ++ q) h1
    rw [← List.append_assoc, ← e, ← h] at h2
    have h3 := oneL_rec s [] hs
    rw [List.append_nil, h2] at h3
    have hss : s' = s := by simpa using h3
    subst hss
    have : (rec10 s').length = (rec10 s').length + r.length + q.length := by
      conv => lhs; rw [h, e]
      simp [Nat.add_assoc]
    have hq' : 0 < q.length := by
      rcases Nat.eq_zero_or_pos q.length with h0 | h0
      · exact absurd (List.eq_nil_of_length_eq_zero h0) hq
      · exact h0
    omega
theorem oneL_nil : oneL [] = none := by
  have := rec10_len []
  cases hp : oneL [] with
  | none => rfl
  | some s' =>
    obtain ⟨h1, r, e⟩ := oneL_some [] s' hp
    have h2 := rec10_len s'
    have : ([] : List UInt8).length = (rec10 s' ++ r).length := congrArg _ e
    simp at this
    omega

end Go.Proofs.YtoaedkinlnkkhaaDoor
