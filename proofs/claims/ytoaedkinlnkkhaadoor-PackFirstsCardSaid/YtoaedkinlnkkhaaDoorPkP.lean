/- Trees as text, in plain words: a number up to a colon, counted bytes, a node. No condition. -/
import Derived.Test.YtoaedkinlnkkhaaDoorTpN
import Derived.Test.YtoaedkinlnkkhaaDoorTrO
import Derived.Lib.Split
namespace Go.Proofs.YtoaedkinlnkkhaaDoor
open Go.Lib

/-- A number up to a colon, and what is behind it. -/
def numP (l : List UInt8) : Option (Nat × List UInt8) :=
  let c := cut (l.take 7) [58]
  if c.2.2 = true ∧ 0 ≤ numOf 6 c.1 then some ((numOf 6 c.1).toNat, l.drop (c.1.length + 1)) else none
/-- Counted bytes, and what is behind them. -/
def countedP (l : List UInt8) : Option (ByteArray × List UInt8) :=
  match numP l with
  | some (n, r) => if n ≤ r.length then some (⟨(r.take n).toArray⟩, r.drop n) else none
  | none => none

theorem numOf_lt (m : Nat) (l : List UInt8) : -1 ≤ numOf m l ∧ numOf m l < (10 ^ m : Nat) := by
  rcases numOf_cases m l with h | ⟨h, hd, hl, -⟩
  · rw [h]; exact ⟨by omega, by have := Nat.pow_pos (n := m) (show 0 < 10 by omega); omega⟩
  · have h1 := dval_lt l (fun c hc => (isDig_iff c).2 (by rw [hd] at hc; exact dec_digit _ c hc))
    have h2 := Nat.pow_le_pow_right (show 0 < 10 by omega) hl
    rw [h]
    exact ⟨by omega, by omega⟩
theorem num_ok {D : List UInt8} {v : Int} (h : atoiAll D = .ok v) : (0 ≤ numOf 6 D ↔ D.length ≤ 6 ∧ 0 ≤ v ∧ itoa v = D) ∧ (0 ≤ numOf 6 D → numOf 6 D = v) := by
  have hc := numOf_cases 6 D
  have hb := numOf_lt 6 D
  have k : 0 ≤ numOf 6 D → numOf 6 D = v ∧ D.length ≤ 6 ∧ 0 ≤ v ∧ itoa v = D := fun h0 => by
    obtain ⟨h1, h2, h3, -⟩ := hc.resolve_left (by omega)
    have h4 : atoiAll D = .ok (dval D : Int) := by
      conv => lhs; rw [h2]
      exact atoi_dec _ (by omega)
    rw [h] at h4
    have h5 : v = (dval D : Int) := by injection h4
    subst h5
    exact ⟨h1, h3, by omega, by rw [itoa_nonneg]; exact h2.symm⟩
  refine ⟨⟨fun h0 => (k h0).2, fun ⟨h1, h2, h3⟩ => ?_⟩, fun h0 => (k h0).1⟩
  obtain ⟨n, rfl⟩ := Int.eq_ofNat_of_zero_le h2
  rw [itoa_nonneg] at h3
  have : numOf 6 D = (n : Int) := by rw [← h3]; exact numOf_dec 6 n (by rw [h3]; exact h1)
  omega
theorem num_err {D : List UInt8} (h : ∀ u, atoiAll D ≠ .ok u) : ¬ 0 ≤ numOf 6 D := fun h0 => by
  have hb := numOf_lt 6 D
  obtain ⟨h1, h2, h3, -⟩ := (numOf_cases 6 D).resolve_left (by omega)
  refine h (dval D : Int) ?_
  conv => lhs; rw [h2]
  exact atoi_dec _ (by omega)
theorem numP_none {l D R : List UInt8} {is : Bool} (h : cut (l.take 7) [58] = (D, R, is)) (hn : is = false ∨ ¬ 0 ≤ numOf 6 D) : numP l = none := by
  unfold numP
  simp only [h]
  rw [if_neg]
  rintro ⟨h1, h2⟩
  rcases hn with hn | hn
  · rw [hn] at h1; cases h1
  · exact hn h2
theorem numP_some {l D R : List UInt8} (h : cut (l.take 7) [58] = (D, R, true)) (hn : 0 ≤ numOf 6 D) : numP l = some ((numOf 6 D).toNat, l.drop (D.length + 1)) := by
  unfold numP
  simp only [h]
  rw [if_pos ⟨trivial, hn⟩]
theorem numP_lt {l : List UInt8} {n : Nat} {r : List UInt8} (h : numP l = some (n, r)) : n < 1000000 ∧ r.length ≤ l.length ∧ ∃ k, r = l.drop k ∧ 1 ≤ k ∧ k ≤ l.length := by
  unfold numP at h
  simp only at h
  split at h
  · rename_i hh
    obtain ⟨h1, h2⟩ := hh
    have hb := numOf_lt 6 (cut (l.take 7) [58]).1
    obtain ⟨rfl, rfl⟩ := Prod.mk.inj (Option.some.inj h)
    refine ⟨by omega, by simp, _, rfl, by omega, ?_⟩
    rcases cut_cases (l.take 7) with hc | ⟨d, r, hb, hc⟩
    · rw [hc] at h1; cases h1
    · rw [hc]
      have := congrArg List.length hb
      simp at this
      simp only
      omega
  · cases h
/-- What a node's text says, or a kid's: the node, how many nodes there were, what is behind it; or an error's number. -/
abbrev Got := Except Nat (Nd × Nat × List UInt8)
/-- Kids one behind the other. -/
def kidsP (g : Nat → List UInt8 → Got) : Nat → Nat → List UInt8 → Except Nat (List (ByteArray × Nd) × Nat × List UInt8)
  | 0, c, l => .ok ([], c, l)
  | m + 1, c, l => match countedP l with
    | none => .error 1
    | some (s, r) => match g c r with
      | .error e => .error e
      | .ok (x, c', r') => match kidsP g m c' r' with
        | .error e => .error e
        | .ok (ks, c2, r2) => .ok ((s, x) :: ks, c2, r2)
/-- A node behind its letter. -/
def dirP (g : Nat → List UInt8 → Got) (c : Nat) (l : List UInt8) : Got := match numP l with
  | none => .error 1
  | some (n, r) => match kidsP g n c r with
    | .error e => .error e
    | .ok (ks, c', r') => .ok (.mk kDir ⟨#[]⟩ false () ks, c', r')
def leafP (k : UInt8) (c : Nat) (l : List UInt8) : Got := match countedP l with
  | none => .error 1
  | some (s, r) => .ok (.mk (if k = 108 then kLink else kFile) s (decide (k = 120)) () [], c, r)
/-- A node: f levels are left, c nodes are there. -/
def nodeP : Nat → Nat → List UInt8 → Got
  | 0, _, _ => .error 9
  | f + 1, c, l => if 200 < c + 1 then .error 8 else match l with
    | [] => .error 1
    | k :: r => if k = 100 then dirP (nodeP f) (c + 1) r else if k = 108 ∨ k = 102 ∨ k = 120 then leafP k (c + 1) r else .error 1

theorem nodeP_step (f c : Nat) (l : List UInt8) : nodeP (f + 1) c l = if 200 < c + 1 then .error 8 else match l with
    | [] => .error 1
    | k :: r => if k = 100 then dirP (nodeP f) (c + 1) r else if k = 108 ∨ k = 102 ∨ k = 120 then leafP k (c + 1) r else .error 1 := by rw [nodeP.eq_def]

theorem countedP_lt {l r : List UInt8} {s : ByteArray} (h : countedP l = some (s, r)) : r.length ≤ l.length ∧ s.size ≤ l.length := by
  unfold countedP at h
  split at h
  · rename_i n r' hn
    split at h
    · obtain ⟨rfl, rfl⟩ := Prod.mk.inj (Option.some.inj h)
      have := (numP_lt hn).2.1
      refine ⟨by simp; omega, ?_⟩
      rw [← size_toList]
      simp
      omega
    · cases h
  · cases h
theorem kidsP_len {g : Nat → List UInt8 → Got} (hg : ∀ c l x c' r, c ≤ 200 → g c l = .ok (x, c', r) → r.length ≤ l.length ∧ c ≤ c' ∧ c' ≤ 200) : ∀ n c l ks c' r, c ≤ 200 → kidsP g n c l = .ok (ks, c', r) → r.length ≤ l.length ∧ c ≤ c' ∧ c' ≤ 200
  | 0, c, l, ks, c', r, hc, h => by
    rw [kidsP] at h
    obtain ⟨-, rfl, rfl⟩ : [] = ks ∧ c = c' ∧ l = r := by injection h with h; simpa using h
    exact ⟨Nat.le_refl _, Nat.le_refl _, hc⟩
  | n + 1, c, l, ks, c', r, hc, h => by
    rw [kidsP] at h
    split at h
    · cases h
    · rename_i s r1 h1
      split at h
      · cases h
      · rename_i x c1 r2 h2
        split at h
        · cases h
        · rename_i ks2 c2 r3 h3
          obtain ⟨-, rfl, rfl⟩ : (s, x) :: ks2 = ks ∧ c2 = c' ∧ r3 = r := by injection h with h; simpa using h
          have a1 := (countedP_lt h1).1
          have a2 := hg _ _ _ _ _ hc h2
          have a3 := kidsP_len hg n _ _ _ _ _ a2.2.2 h3
          exact ⟨by omega, by omega, a3.2.2⟩
theorem nodeP_len : ∀ f c l x c' r, c ≤ 200 → nodeP f c l = .ok (x, c', r) → r.length ≤ l.length ∧ c ≤ c' ∧ c' ≤ 200
  | 0, c, l, x, c', r, hc, h => by rw [nodeP] at h; cases h
  | f + 1, c, l, x, c', r, hc, h => by
    rw [nodeP_step] at h
    split at h
    · cases h
    · rename_i hc2
      split at h
      · cases h
      · rename_i k l2
        split at h
        · unfold dirP at h
          split at h
          · cases h
          · rename_i n r1 h1
            split at h
            · cases h
            · rename_i ks c2 r2 h2
              obtain ⟨-, rfl, rfl⟩ : _ ∧ c2 = c' ∧ r2 = r := by injection h with h; simpa using h
              have a1 := (numP_lt h1).2.1
              have a2 := kidsP_len (nodeP_len f) _ _ _ _ _ _ (by omega) h2
              simp only [List.length_cons]
              exact ⟨by omega, by omega, a2.2.2⟩
        · split at h
          · unfold leafP at h
            split at h
            · cases h
            · rename_i s r1 h1
              obtain ⟨-, rfl, rfl⟩ : _ ∧ c + 1 = c' ∧ r1 = r := by injection h with h; simpa using h
              have a1 := (countedP_lt h1).1
              simp only [List.length_cons]
              exact ⟨by omega, by omega, by omega⟩
          · cases h
/-- The error's number is one that the sentinels have. -/
theorem kidsP_err {g : Nat → List UInt8 → Got} (hg : ∀ c l e, g c l = .error e → e = 1 ∨ e = 8 ∨ e = 9) : ∀ n c l e, kidsP g n c l = .error e → e = 1 ∨ e = 8 ∨ e = 9
  | 0, c, l, e, h => by rw [kidsP] at h; cases h
  | n + 1, c, l, e, h => by
    rw [kidsP] at h
    split at h
    · injection h with h; exact .inl h.symm
    · split at h
      · rename_i e2 h2
        injection h with h; subst h
        exact hg _ _ _ h2
      · split at h
        · rename_i e3 h3
          injection h with h; subst h
          exact kidsP_err hg n _ _ _ h3
        · cases h
theorem nodeP_err : ∀ f c l e, nodeP f c l = .error e → e = 1 ∨ e = 8 ∨ e = 9
  | 0, c, l, e, h => by rw [nodeP] at h; injection h with h; exact .inr (.inr h.symm)
  | f + 1, c, l, e, h => by
    rw [nodeP_step] at h
    split at h
    · injection h with h; exact .inr (.inl h.symm)
    · split at h
      · injection h with h; exact .inl h.symm
      · split at h
        · unfold dirP at h
          split at h
          · injection h with h; exact .inl h.symm
          · split at h
            · rename_i e2 h2
              injection h with h; subst h
              exact kidsP_err (nodeP_err f) _ _ _ _ h2
            · cases h
        · split at h
          · unfold leafP at h
            split at h
            · injection h with h; exact .inl h.symm
            · cases h
          · injection h with h; exact .inl h.symm
/-- Kids behind kids. -/
def preK (acc : List (ByteArray × Nd)) (r : Except Nat (List (ByteArray × Nd) × Nat × List UInt8)) : Except Nat (List (ByteArray × Nd) × Nat × List UInt8) := match r with
  | .ok (ks, c, l) => .ok (acc ++ ks, c, l)
  | .error e => .error e
theorem preK_nil (r) : preK [] r = r := by cases r <;> rfl
theorem preK_pre (a b : List (ByteArray × Nd)) (r) : preK a (preK b r) = preK (a ++ b) r := by cases r <;> simp [preK]
theorem kidsP_step {g : Nat → List UInt8 → Got} {m c : Nat} {l : List UInt8} : kidsP g (m + 1) c l = match countedP l with
    | none => .error 1
    | some (s, r) => match g c r with
      | .error e => .error e
      | .ok (x, c', r') => preK [(s, x)] (kidsP g m c' r') := by
  rw [kidsP]
  split
  · rfl
  · split
    · rfl
    · rename_i x c' r' h
      cases kidsP g m c' r' <;> rfl
end Go.Proofs.YtoaedkinlnkkhaaDoor
