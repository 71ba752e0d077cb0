/- Plain law of the sum of a text: the shift register of the program and that of the document are one. No condition. -/
namespace Go.Proofs.YtcpilhembdphoaaGreatDoor

/-- One step of the register. -/
def crcStep (c : Nat) : Nat := c / 2 ^^^ (if c % 2 = 1 then 3988292384 else 0)
/-- k steps. -/
def crcSteps : Nat → Nat → Nat
  | 0, c => c
  | k + 1, c => crcStep (crcSteps k c)
/-- The register behind a text's bytes. -/
def crcTo (l : List UInt8) : Nat := l.foldl (fun c b => crcSteps 8 (c ^^^ b.toNat)) 4294967295
def crc (l : List UInt8) : Nat := crcTo l ^^^ 4294967295

/-- The document's register. -/
def refSteps (b : Nat) : Nat → Nat → Nat
  | 0, c => c
  | k + 1, c => refSteps b k c / 2 ^^^ (if (refSteps b k c ^^^ b >>> k) % 2 = 1 then 3988292384 else 0)

theorem xor_div2 (a b : Nat) : (a ^^^ b) / 2 = a / 2 ^^^ b / 2 := by
  have := Nat.shiftRight_xor_distrib (a := a) (b := b) (i := 1)
  simpa [Nat.shiftRight_eq_div_pow] using this

theorem crcSteps_ref (b c : Nat) : ∀ k, crcSteps k (c ^^^ b) = refSteps b k c ^^^ b >>> k
  | 0 => rfl
  | k + 1 => by
    show crcStep (crcSteps k (c ^^^ b)) = _
    rw [crcSteps_ref b c k]
    unfold crcStep
    rw [xor_div2, Nat.shiftRight_succ]
    show _ = (refSteps b k c / 2 ^^^ (if (refSteps b k c ^^^ b >>> k) % 2 = 1 then 3988292384 else 0)) ^^^ (b >>> k / 2)
    rw [Nat.xor_assoc, Nat.xor_assoc, Nat.xor_comm (b >>> k / 2)]

theorem crcSteps_eight (b : UInt8) (c : Nat) : crcSteps 8 (c ^^^ b.toNat) = refSteps b.toNat 8 c := by
  rw [crcSteps_ref, Nat.shiftRight_eq_div_pow, Nat.div_eq_of_lt (by have := b.toNat_lt; omega), Nat.xor_zero]

theorem crcStep_lt {c : Nat} (h : c < 4294967296) : crcStep c < 4294967296 := by
  unfold crcStep
  exact Nat.xor_lt_two_pow (n := 32) (by omega) (by split <;> omega)
theorem crcSteps_lt {c : Nat} (h : c < 4294967296) : ∀ k, crcSteps k c < 4294967296
  | 0 => h
  | k + 1 => crcStep_lt (crcSteps_lt h k)
theorem refSteps_lt (b : Nat) {c : Nat} (h : c < 4294967296) : ∀ k, refSteps b k c < 4294967296
  | 0 => h
  | k + 1 => by
    have := refSteps_lt b h k
    exact Nat.xor_lt_two_pow (n := 32) (by omega) (by split <;> omega)
theorem crcTo_snoc (l : List UInt8) (b : UInt8) : crcTo (l ++ [b]) = crcSteps 8 (crcTo l ^^^ b.toNat) := by simp [crcTo]
theorem crcTo_lt (l : List UInt8) : crcTo l < 4294967296 := by
  unfold crcTo
  suffices h : ∀ (l : List UInt8) c, c < 4294967296 → l.foldl (fun c b => crcSteps 8 (c ^^^ b.toNat)) c < 4294967296 from h l _ (by omega)
  intro l
  induction l with
  | nil => intro c h; exact h
  | cons b l ih => intro c h; exact ih _ (crcSteps_lt (Nat.xor_lt_two_pow (n := 32) h (by have := b.toNat_lt; omega)) 8)
theorem crc_ex : crc [49, 50, 51, 52, 53, 54, 55, 56, 57] = 3421780262 := by decide +kernel
end Go.Proofs.YtcpilhembdphoaaGreatDoor
