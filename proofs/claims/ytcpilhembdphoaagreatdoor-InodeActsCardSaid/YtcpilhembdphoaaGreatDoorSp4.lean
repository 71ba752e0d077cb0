/- The contract of space.Give. Condition: the receiver is a space that New gave. -/
import Derived.Test.YtcpilhembdphoaaGreatDoorSp3
namespace Go.Proofs.YtcpilhembdphoaaGreatDoor
open Go.RowKit

/-- Is a number none of a block? -/
def badK (n : Nat) (x : Int) : Bool := decide (x < 0) || decide ((n : Int) ≤ x)

theorem give_cl (c p r : Nat) (us : List Bool) (x : Int) (w : World) (hc : w.cell? ⟨c, 0, none⟩ = some (.pointer (some ⟨p, 0, none⟩))) (h : SpAt w p r us) :
    Calls Tryz.prog 86 #[.int .i64 x, .pointer (some ⟨c, 0, none⟩)] w (IsBool (badK us.length x) w) := by
  have hd := h.hd
  have hb := h.big
  unfold badK
  by_cases h0 : x < 0
  · have h1 : decide (x < 0) = true := by simpa using h0
    rw [h1, Bool.true_or]
    clear h
    go_enter Tryz.func86, Tryz.ntmps86
    go_wp2
    go_ret
    exact ⟨rfl, rfl⟩
  · have h1 : decide (x < 0) = false := by simpa using h0
    rw [h1, Bool.false_or]
    clear h
    generalize us.length = n at *
    by_cases h2 : (n : Int) ≤ x
    · have h3 : decide ((n : Int) ≤ x) = true := by simpa using h2
      rw [h3]
      go_enter Tryz.func86, Tryz.ntmps86
      go_wp2
      go_ret
      exact ⟨rfl, rfl⟩
    · have h3 : decide ((n : Int) ≤ x) = false := by simpa using h2
      rw [h3]
      go_enter Tryz.func86, Tryz.ntmps86
      go_wp2
      go_ret
      exact ⟨rfl, rfl⟩

/-- slices.IndexFunc with Give's function. -/
def IdxF (q : Int → Bool) (l : List Int) (w : World) (e : Ending) (w' : World) : Prop := (∃ k : Int, e = .returned (.int .i64 k) ∧ (0 ≤ k ↔ l.any q = true)) ∧ w = w'
theorem give_idx (c p r : Nat) (us : List Bool) (v : Value) (l : List Int) (w : World) (hc : w.cell? ⟨c, 0, none⟩ = some (.pointer (some ⟨p, 0, none⟩))) (h : SpAt w p r us) (hv : Sl w v (icells l) l.length 1) :
    Calls Tryz.prog 99 #[v, .func (.func 86) #[] #[.pointer (some ⟨c, 0, none⟩)]] w (IdxF (badK us.length) l w) := by
  obtain ⟨a, cap, rfl, -⟩ := id hv
  have hm := hv.le
  go_enter Tryz.func99, Tryz.ntmps99
  go_wp2_with fail
  go_loop [8] (fun i => ∃ k : Nat, k ≤ l.length ∧ i = .int .i64 k ∧ (l.take k).any (badK us.length) = false) (fun i => l.length - (intOf i).toNat)
  case atStart => exact ⟨0, Nat.zero_le _, rfl, by simp⟩
  case round =>
    obtain ⟨k, hk, rfl, hnot⟩ := hrel
    by_cases hlt : k < l.length
    · obtain ⟨b, off, rfl, -, hc', hcell⟩ := hv.at1 hlt
      rw [show (icells l)[k] = .int .i64 l[k] by simp [icells]] at hcell
      have hs : (l.take (k + 1)).any (badK us.length) = badK us.length l[k] := by
        rw [List.take_succ_eq_append_getElem hlt, List.any_append, hnot]; simp
      cases hx : badK us.length l[k]
      · rw [hx] at hs
        have HX := hidd hx
        clear hx hnot hc'
        have hlt2 : k + 1 ≤ l.length := hlt
        generalize l[k] = y at *
        go_wp2_with (go_at_call 86; refine (give_cl c p r us y _ hc h).mono ?_; rintro e w' ⟨rfl, rfl⟩; rw [HX.out])
        go_round
        case rel => exact ⟨k + 1, by omega, by go_num, hs⟩
        case measure => simp [intOf]; omega
      · have hin : l.any (badK us.length) = true := by
          rw [List.any_eq_true]; exact ⟨l[k], List.getElem_mem _, hx⟩
        have HX := hidd hx
        have HI := hidd hin
        clear hx hnot hc' hm hs hin
        generalize l[k] = y at *
        go_wp2_with (go_at_call 86; refine (give_cl c p r us y _ hc h).mono ?_; rintro e w' ⟨rfl, rfl⟩; rw [HX.out])
        go_ret
        exact ⟨⟨_, rfl, by simp [HI.out]⟩, rfl⟩
    · rw [List.take_of_length_le (by omega)] at hnot
      have HI := hidd hnot
      clear hnot hv h hc
      go_wp2
      go_ret
      exact ⟨⟨-1, rfl, by simp [HI.out]⟩, rfl⟩

theorem give_any (c p r : Nat) (us : List Bool) (v : Value) (l : List Int) (w : World) (hc : w.cell? ⟨c, 0, none⟩ = some (.pointer (some ⟨p, 0, none⟩))) (h : SpAt w p r us) (hv : Sl w v (icells l) l.length 1) :
    Calls Tryz.prog 85 #[v, .func (.func 86) #[] #[.pointer (some ⟨c, 0, none⟩)]] w (IsBool (l.any (badK us.length)) w) := by
  cases hx : l.any (badK us.length)
  · go_enter Tryz.func85, Tryz.ntmps85
    go_wp2_with fail
    refine (give_idx c p r us v l w hc h hv).mono ?_
    rintro e w' ⟨⟨k, rfl, hk⟩, rfl⟩
    have hk0 : ¬ 0 ≤ k := fun h0 => by rw [hk.1 h0] at hx; cases hx
    clear hk hx hv h hc
    go_wp2
    go_ret
    exact ⟨by simp; omega, rfl⟩
  · go_enter Tryz.func85, Tryz.ntmps85
    go_wp2_with fail
    refine (give_idx c p r us v l w hc h hv).mono ?_
    rintro e w' ⟨⟨k, rfl, hk⟩, rfl⟩
    have hk0 : 0 ≤ k := hk.2 hx
    clear hk hx hv h hc
    go_wp2
    go_ret
    exact ⟨by simp, rfl⟩

/-- The first k numbers of l are in use, each once. -/
def gOk (us : List Bool) (l : List Int) (k : Nat) : Prop := ∀ i, i < k → us.getD (l.getD i 0).toNat false = true ∧ l.getD i 0 ∉ l.take i
theorem gOk_succ {us : List Bool} {l : List Int} {k : Nat} (h : gOk us l k) (h1 : us.getD (l.getD k 0).toNat false = true) (h2 : l.getD k 0 ∉ l.take k) : gOk us l (k + 1) := by
  intro i hi
  by_cases e : i = k
  · subst e; exact ⟨h1, h2⟩
  · exact h i (by omega)

set_option maxRecDepth 100000 in
theorem give_bound (E : Nat → Addr) (p r : Nat) (us : List Bool) (v : Value) (l : List Int) (w : World) (h : SpAt w p r us) (hv : Sl w v (icells l) l.length 1) (hbad : l.any (badK us.length) = true)
    (B : Nat) (G : List Nat) (hE : Env G B w E) (hg : 0 ∈ G) :
    Calls Tryz.prog 63 #[.pointer (some ⟨p, 0, none⟩), v] w fun e w' => e = .returned (erv E 0) ∧ Below w.heap.size w w' := by
  have hmf : ∀ (fn : Fn) (first cap : Array Value) (w : World), (Instr.makeFunc fn first cap).run Tryz.prog w = .ok (.func fn first cap) w := fun _ _ _ _ => rfl
  have hb1 : Below w.heap.size w (w.alloc (.cells #[.pointer (some ⟨p, 0, none⟩)] 65)) := (Below.refl _ _).alloc (Nat.le_refl _) _
  have hcell : (w.alloc (.cells #[.pointer (some ⟨p, 0, none⟩)] 65)).cell? ⟨w.heap.size, 0, none⟩ = some (.pointer (some ⟨p, 0, none⟩)) := by
    rw [World.cell?_alloc_at _ _ _ _ rfl]; rfl
  have hc := (hE.ob hb1).cell _ hg
  unfold erv at *
  go_enter Tryz.func63, Tryz.ntmps63
  go_wp2_with fail
  refine (give_any w.heap.size p r us v l _ hcell (h.ob hb1 (Nat.le_refl _)) (hv.ob hb1 (Nat.le_refl _))).mono ?_
  rintro e w' ⟨rfl, rfl⟩
  rw [hbad]
  clear h hv hE hcell
  go_wp2
  go_ret
  exact ⟨rfl, hb1⟩
end Go.Proofs.YtcpilhembdphoaaGreatDoor
