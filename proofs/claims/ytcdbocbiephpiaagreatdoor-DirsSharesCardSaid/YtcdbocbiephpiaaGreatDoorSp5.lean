/- The contract of space.Give where it gives back, and where one is free or twice there. Condition: the receiver is a space that New gave. -/
import Derived.Test.YtcdbocbiephpiaaGreatDoorSp4
namespace Go.Proofs.YtcdbocbiephpiaaGreatDoor
open Go.RowKit

theorem Sl.cap {w : World} {a : Option Addr} {cap : Nat} {cs : List Value} {n n' size : Nat} (h : Sl w (.slice a n' cap) cs n size) : n ≤ cap := by
  obtain ⟨a', cap', he, h1, h2, h2', h3⟩ := h
  simp only [Value.slice.injEq] at he
  obtain ⟨rfl, rfl, rfl⟩ := he
  exact h2
theorem Sl.take {w : World} {a : Option Addr} {cap : Nat} {cs : List Value} {n size : Nat} (h : Sl w (.slice a n cap) cs n size) {k : Nat} (hk : k ≤ n) : Sl w (.slice a k cap) (cs.take (k * size)) k size := by
  obtain ⟨a', cap', he, h1, h2, h2', h3⟩ := h
  simp only [Value.slice.injEq] at he
  obtain ⟨rfl, _, rfl⟩ := he
  have hks : k * size ≤ n * size := Nat.mul_le_mul_right _ hk
  refine ⟨_, _, rfl, by rw [List.length_take]; omega, by omega, h2', ?_⟩
  rcases h3 with h3 | ⟨b, off, rfl, h4, h5⟩
  · exact .inl (by omega)
  · exact .inr ⟨b, off, rfl, h4, fun j hj => by
      rw [List.length_take] at hj
      rw [List.getElem_take]; exact h5 j (by omega)⟩
theorem icells_take (l : List Int) (k : Nat) : (icells l).take k = icells (l.take k) := by simp [icells]
theorem badK_lt {n : Nat} {l : List Int} (h : l.any (badK n) = false) {i : Nat} (hi : i < l.length) : 0 ≤ l[i] ∧ l[i] < (n : Int) := by
  rw [List.any_eq_false] at h
  have := h l[i] (List.getElem_mem _)
  simp only [badK, Bool.or_eq_true, decide_eq_true_eq, not_or] at this
  omega

set_option maxRecDepth 100000 in
set_option maxHeartbeats 2000000 in
theorem give_ok (p r : Nat) (us : List Bool) (v : Value) (l : List Int) (w : World) (h : SpAt w p r us) (hv : Sl w v (icells l) l.length 1) (hvr : v.ownBlock ≠ some r) (hbad : l.any (badK us.length) = false) (hok : gOk us l l.length) :
    Calls Tryz.prog 63 #[.pointer (some ⟨p, 0, none⟩), v] w fun e w' => e = .returned .nilIface ∧ SpAt w' p r (giv us (l.map Int.toNat)) ∧ Fr (fun b => b = r) w w' := by
  have hmf : ∀ (fn : Fn) (first cap : Array Value) (w : World), (Instr.makeFunc fn first cap).run Tryz.prog w = .ok (.func fn first cap) w := fun _ _ _ _ => rfl
  have hb1 : Below w.heap.size w (w.alloc (.cells #[.pointer (some ⟨p, 0, none⟩)] 107)) := (Below.refl _ _).alloc (Nat.le_refl _) _
  have hcell : (w.alloc (.cells #[.pointer (some ⟨p, 0, none⟩)] 107)).cell? ⟨w.heap.size, 0, none⟩ = some (.pointer (some ⟨p, 0, none⟩)) := by
    rw [World.cell?_alloc_at _ _ _ _ rfl]; rfl
  have hsp := h.ob hb1 (Nat.le_refl _)
  have hv1 := hv.ob hb1 (Nat.le_refl _)
  obtain ⟨a, cap, rfl, -⟩ := id hv
  have hm := hv.le
  have hrlt := h.row.lt
  go_enter Tryz.func63, Tryz.ntmps63
  go_wp2_with fail
  generalize hW : w.alloc _ = W1 at *
  have HW := hidd hW
  clear hW
  refine (give_any w.heap.size p r us _ l _ hcell hsp hv1).mono ?_
  rintro e w' ⟨rfl, rfl⟩
  rw [hbad]
  have hhd := hsp.hd
  go_wp2_with fail
  go_loop [15] (fun i => ∃ k : Nat, k ≤ l.length ∧ i = .int .i64 k) (fun i => l.length - (intOf i).toNat)
  case atStart => exact ⟨0, Nat.zero_le _, rfl⟩
  case round =>
    obtain ⟨k, hk, rfl⟩ := hrel
    by_cases hlt : k < l.length
    · obtain ⟨b, off, rfl, hbl, hc', hvc⟩ := hv1.at1 hlt
      rw [show (icells l)[k] = .int .i64 l[k] by simp [icells]] at hvc
      obtain ⟨hr0, hr1⟩ := badK_lt hbad hlt
      obtain ⟨ho1, ho2⟩ := hok k hlt
      have hge : l.getD k 0 = l[k] := by rw [List.getD_eq_getElem?_getD, List.getElem?_eq_getElem hlt, Option.getD_some]
      rw [hge] at ho1 ho2
      have hcu := hsp.cell (i := l[k].toNat) (getD_some (d := false) (by omega))
      rw [ho1] at hcu
      have hvt : Sl W1 (.slice (some ⟨b, off, none⟩) k cap) (icells (l.take k)) (l.take k).length 1 := by
        have := hv1.take (k := k) (by omega)
        rw [Nat.mul_one, icells_take] at this
        rwa [show (l.take k).length = k by rw [List.length_take]; omega]
      have hkc : (k : Int) ≤ (cap : Int) := by have := hv1.cap; omega
      have hnot : decide (l[k] ∈ l.take k) = false := by simpa using ho2
      have HN := hidd hnot
      clear ho1 ho2 hge hok h hv hb1 hnot
      generalize l[k] = y at *
      go_wp2_with (go_at_call 89; refine (contains_any _ _ _ _ hvt).mono ?_; rintro e w' ⟨rfl, rfl⟩; rw [HN.out])
      go_round
      case rel => exact ⟨k + 1, by omega, by go_num⟩
      case measure => simp [intOf]; omega
    · go_wp2_with fail
      go_loopw [39] (fun i wr => ∃ k : Nat, k ≤ l.length ∧ i = .int .i64 k ∧ SpAt wr p r (giv us ((l.take k).map Int.toNat)) ∧ Fr (fun b => b = r) W1 wr) (fun i _ => l.length - (intOf i).toNat)
      case atStart => exact ⟨0, Nat.zero_le _, rfl, by simpa [giv] using hsp, Fr.refl _ _⟩
      case round =>
        obtain ⟨k, hk, rfl, hsp2, hfr⟩ := hrel
        by_cases hlt : k < l.length
        · have hv2 := hv1.fr hfr (fun k' hk' e => hvr (hk'.trans (congrArg some e)))
          obtain ⟨b, off, rfl, hbl, hc', hvc⟩ := hv2.at1 hlt
          rw [show (icells l)[k] = .int .i64 l[k] by simp [icells]] at hvc
          obtain ⟨hr0, hr1⟩ := badK_lt hbad hlt
          have hl2 := giv_len ((l.take k).map Int.toNat) us
          have hhd2 := hsp2.hd
          rw [hl2] at hhd2
          have hcu := hsp2.cell (i := l[k].toNat) (getD_some (d := false) (by omega))
          have hfz := hsp2.row.frozen l[k].toNat
          have hcp := hfr.cell hcell (by simp; omega)
          have hsp3 := hsp2.set l[k].toNat false
          rw [← giv_snoc, ← List.map_singleton (f := Int.toNat), ← List.map_append, ← List.take_succ_eq_append_getElem hlt] at hsp3
          have hlt2 : k + 1 ≤ l.length := hlt
          have hsz := hfr.size
          clear hok h hv hsp hv1 hv2 hcell hhd
          generalize l[k] = y at *
          generalize giv us ((l.take k).map Int.toNat) = us2 at *
          generalize hU3 : giv us ((l.take (k + 1)).map Int.toNat) = us3 at *
          have HU := hidd hU3
          clear hU3
          go_wp2_with fail
          go_roundw
          case rel => exact ⟨k + 1, by omega, by go_num, by rw [HU.out]; exact hsp3, hfr.setCell (.inl rfl) _⟩
          case measure => simp [intOf]; omega
        · obtain rfl : k = l.length := by omega
          rw [List.take_of_length_le (Nat.le_refl _)] at hsp2
          clear h hv hsp hv1 hcell hhd hok
          go_wp2_with fail
          go_ret
          exact ⟨rfl, hsp2, (Fr.ob hb1).trans' hfr (fun _ _ x => x) (fun _ _ x => x)⟩

set_option maxRecDepth 100000 in
set_option maxHeartbeats 2000000 in
theorem give_none (E : Nat → Addr) (p r : Nat) (us : List Bool) (v : Value) (l : List Int) (w : World) (h : SpAt w p r us) (hv : Sl w v (icells l) l.length 1) (hbad : l.any (badK us.length) = false)
    (j : Nat) (hj : j < l.length) (hok : gOk us l j) (hno : ¬ (us.getD (l.getD j 0).toNat false = true ∧ l.getD j 0 ∉ l.take j)) (B : Nat) (G : List Nat) (hE : Env G B w E) (hg : 1 ∈ G) :
    Calls Tryz.prog 63 #[.pointer (some ⟨p, 0, none⟩), v] w fun e w' => e = .returned (erv E 1) ∧ Below w.heap.size w w' := by
  have hmf : ∀ (fn : Fn) (first cap : Array Value) (w : World), (Instr.makeFunc fn first cap).run Tryz.prog w = .ok (.func fn first cap) w := fun _ _ _ _ => rfl
  have hb1 : Below w.heap.size w (w.alloc (.cells #[.pointer (some ⟨p, 0, none⟩)] 107)) := (Below.refl _ _).alloc (Nat.le_refl _) _
  have hcell : (w.alloc (.cells #[.pointer (some ⟨p, 0, none⟩)] 107)).cell? ⟨w.heap.size, 0, none⟩ = some (.pointer (some ⟨p, 0, none⟩)) := by
    rw [World.cell?_alloc_at _ _ _ _ rfl]; rfl
  have hc := (hE.ob hb1).cell _ hg
  unfold erv at *
  have hsp := h.ob hb1 (Nat.le_refl _)
  have hv1 := hv.ob hb1 (Nat.le_refl _)
  obtain ⟨a, cap, rfl, -⟩ := id hv
  have hm := hv.le
  go_enter Tryz.func63, Tryz.ntmps63
  go_wp2_with fail
  generalize hW : w.alloc _ = W1 at *
  have HW := hidd hW
  clear hW
  refine (give_any w.heap.size p r us _ l _ hcell hsp hv1).mono ?_
  rintro e w' ⟨rfl, rfl⟩
  rw [hbad]
  have hhd := hsp.hd
  go_wp2_with fail
  go_loop [15] (fun i => ∃ k : Nat, k ≤ j ∧ i = .int .i64 k) (fun i => l.length - (intOf i).toNat)
  case atStart => exact ⟨0, Nat.zero_le _, rfl⟩
  case round =>
    obtain ⟨k, hk, rfl⟩ := hrel
    have hlt : k < l.length := by omega
    obtain ⟨b, off, rfl, hbl, hc', hvc⟩ := hv1.at1 hlt
    rw [show (icells l)[k] = .int .i64 l[k] by simp [icells]] at hvc
    obtain ⟨hr0, hr1⟩ := badK_lt hbad hlt
    have hge : l.getD k 0 = l[k] := by rw [List.getD_eq_getElem?_getD, List.getElem?_eq_getElem hlt, Option.getD_some]
    have hcu := hsp.cell (i := l[k].toNat) (getD_some (d := false) (by omega))
    have hvt : Sl W1 (.slice (some ⟨b, off, none⟩) k cap) (icells (l.take k)) (l.take k).length 1 := by
      have := hv1.take (k := k) (by omega)
      rw [Nat.mul_one, icells_take] at this
      rwa [show (l.take k).length = k by rw [List.length_take]; omega]
    have hkc : (k : Int) ≤ (cap : Int) := by have := hv1.cap; omega
    by_cases hkj : k < j
    · obtain ⟨ho1, ho2⟩ := hok k hkj
      rw [hge] at ho1 ho2
      rw [ho1] at hcu
      have hnot : decide (l[k] ∈ l.take k) = false := by simpa using ho2
      have HN := hidd hnot
      clear ho1 ho2 hge hok hno h hv hb1 hnot
      generalize l[k] = y at *
      go_wp2_with (go_at_call 89; refine (contains_any _ _ _ _ hvt).mono ?_; rintro e w' ⟨rfl, rfl⟩; rw [HN.out])
      go_round
      case rel => exact ⟨k + 1, by omega, by go_num⟩
      case measure => simp [intOf]; omega
    · obtain rfl : k = j := by omega
      rw [hge] at hno
      by_cases hu : us.getD l[k].toNat false = true
      · have ho2 : l[k] ∈ l.take k := by
          apply Decidable.byContradiction
          exact fun hh => hno ⟨hu, hh⟩
        rw [hu] at hcu
        have hnot : decide (l[k] ∈ l.take k) = true := by simpa using ho2
        have HN := hidd hnot
        clear ho2 hge hok hno h hv hnot hu
        generalize l[k] = y at *
        go_wp2_with (go_at_call 89; refine (contains_any _ _ _ _ hvt).mono ?_; rintro e w' ⟨rfl, rfl⟩; rw [HN.out])
        go_ret
        exact ⟨rfl, hb1⟩
      · have hu' : us.getD l[k].toNat false = false := by simpa using hu
        rw [hu'] at hcu
        clear hge hok hno h hv hu hu' hvt
        generalize l[k] = y at *
        go_wp2_with fail
        go_ret
        exact ⟨rfl, hb1⟩
end Go.Proofs.YtcdbocbiephpiaaGreatDoor
