/- Plain law of the sum of a text: a text of which one byte is another one has another sum. No condition. -/
import Derived.Test.YtcpilhembdphoaaGreatDoorCrcL
namespace Go.Proofs.YtcpilhembdphoaaGreatDoor

theorem xor_rc {a b c : Nat} (h : a ^^^ c = b ^^^ c) : a = b := by
  have := congrArg (fun x => x ^^^ c) h
  simpa [Nat.xor_assoc] using this
theorem xor_lc {a b c : Nat} (h : c ^^^ a = c ^^^ b) : a = b := xor_rc (c := c) (by rw [Nat.xor_comm a, Nat.xor_comm b]; exact h)
theorem crcStep_top {c : Nat} (h : c < 4294967296) : (crcStep c).testBit 31 = decide (c % 2 = 1) := by
  unfold crcStep
  rw [Nat.testBit_xor, Nat.testBit_lt_two_pow (show c / 2 < 2 ^ 31 by omega)]
  by_cases hc : c % 2 = 1
  · rw [if_pos hc]; simp [hc]; decide
  · rw [if_neg hc]; simp [hc]
theorem crcStep_inj {c d : Nat} (hc : c < 4294967296) (hd : d < 4294967296) (h : crcStep c = crcStep d) : c = d := by
  have h1 := crcStep_top hc
  rw [h, crcStep_top hd] at h1
  have h2 : c % 2 = 1 ↔ d % 2 = 1 := by
    constructor
    · intro k; rw [decide_eq_true k] at h1; exact of_decide_eq_true h1
    · intro k; rw [decide_eq_true k] at h1; exact of_decide_eq_true h1.symm
  unfold crcStep at h
  have h3 : c / 2 = d / 2 := by
    by_cases k : c % 2 = 1
    · rw [if_pos k, if_pos (h2.1 k)] at h
      exact xor_rc h
    · rw [if_neg k, if_neg (fun q => k (h2.2 q))] at h
      simpa using h
  omega
theorem crcSteps_inj : ∀ (k : Nat) {c d : Nat}, c < 4294967296 → d < 4294967296 → crcSteps k c = crcSteps k d → c = d
  | 0, _, _, _, _, h => h
  | k + 1, _, _, hc, hd, h => crcSteps_inj k hc hd (crcStep_inj (crcSteps_lt hc k) (crcSteps_lt hd k) h)
theorem byte_lt (c : Nat) (b : UInt8) (hc : c < 4294967296) : c ^^^ b.toNat < 4294967296 := Nat.xor_lt_two_pow (n := 32) hc (Nat.lt_trans b.toNat_lt (by decide))
/-- The register behind further bytes. -/
def crcFrom (c : Nat) (l : List UInt8) : Nat := l.foldl (fun c b => crcSteps 8 (c ^^^ b.toNat)) c
theorem crcFrom_inj : ∀ (l : List UInt8) {c d : Nat}, c < 4294967296 → d < 4294967296 → crcFrom c l = crcFrom d l → c = d
  | [], _, _, _, _, h => h
  | b :: l, _, _, hc, hd, h => by
    have := crcFrom_inj l (crcSteps_lt (byte_lt _ b hc) 8) (crcSteps_lt (byte_lt _ b hd) 8) h
    exact xor_rc (crcSteps_inj 8 (byte_lt _ b hc) (byte_lt _ b hd) this)
theorem crcTo_app (p q : List UInt8) : crcTo (p ++ q) = crcFrom (crcTo p) q := by unfold crcTo crcFrom; rw [List.foldl_append]
/-- One byte is another one: another sum. -/
theorem crc_one {p q : List UInt8} {a b : UInt8} (h : crc (p ++ a :: q) = crc (p ++ b :: q)) : a = b := by
  have h1 := xor_rc (show crcTo (p ++ a :: q) ^^^ 4294967295 = crcTo (p ++ b :: q) ^^^ 4294967295 from h)
  rw [crcTo_app, crcTo_app] at h1
  have h2 := crcFrom_inj q (c := crcSteps 8 (crcTo p ^^^ a.toNat)) (d := crcSteps 8 (crcTo p ^^^ b.toNat)) (crcSteps_lt (byte_lt _ a (crcTo_lt p)) 8) (crcSteps_lt (byte_lt _ b (crcTo_lt p)) 8) h1
  have h3 := crcSteps_inj 8 (byte_lt _ a (crcTo_lt p)) (byte_lt _ b (crcTo_lt p)) h2
  exact UInt8.toNat_inj.1 (xor_lc h3)
theorem crc_set {l : List UInt8} {k : Nat} (hk : k < l.length) {b : UInt8} (hb : b ≠ l[k]) : crc (l.set k b) ≠ crc l := fun h => by
  have h1 : l = l.take k ++ l[k] :: l.drop (k + 1) := by rw [← List.drop_eq_getElem_cons hk, List.take_append_drop]
  have h2 : l.set k b = l.take k ++ b :: l.drop (k + 1) := List.set_eq_take_append_cons_drop.trans (if_pos hk)
  rw [h2] at h
  have h3 : crc (l.take k ++ b :: l.drop (k + 1)) = crc (l.take k ++ l[k] :: l.drop (k + 1)) := h.trans (congrArg crc h1)
  exact hb (crc_one h3)
end Go.Proofs.YtcpilhembdphoaaGreatDoor
