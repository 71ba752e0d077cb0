/- The contracts of space.Take, New, Copy, Give and Need. Condition: the receiver is a space that New gave. -/
import Derived.Test.YtcpilhembdphoaaGreatDoorSp
namespace Go.Proofs.YtcpilhembdphoaaGreatDoor
open Go.RowKit

set_option maxRecDepth 100000 in
set_option maxHeartbeats 1000000 in
theorem take_full (E : Nat → Addr) (p r : Nat) (us : List Bool) (k : Int) (w : World) (h : SpAt w p r us) (h0 : 0 ≤ k) (hk : ((nfree us : Nat) : Int) < k) (B : Nat) (G : List Nat) (hE : Env G B w E) (hg : 5 ∈ G) :
    Calls Tryz.prog 24 #[.pointer (some ⟨p, 0, none⟩), .int .i64 k] w fun e w' => e = .returned (.tuple #[.slice none 0 0, erv E 5]) ∧ Below w.heap.size w w' := by
  have hn : ¬ k < 0 := by omega
  go_enter Tryz.func24, Tryz.ntmps24
  go_wp2_with fail
  refine (free_any p r us w h).mono ?_
  rintro e w1 ⟨rfl, hb⟩
  have hc := (hE.ob hb).cell _ hg
  unfold erv at *
  clear h hE
  go_wp2_with fail
  go_quiet (fail)
  go_wp2
  go_ret2
  exact ⟨rfl, hb.trans (by first | exact Below.drewN _ _ _ | (repeat (first | exact Below.refl _ _ | apply Below.drew)))⟩

theorem cell_one_at (w : World) (n : Nat) (hn : n = w.heap.size) (u : Value) (T : TypeId) : ∀ j x, [u][j]? = some x → (w.alloc (.cells #[u] T)).cell? ((⟨n, 0, none⟩ : Addr).add j) = some x := by
  subst hn; exact cell_one_new' w u T
theorem owns_set {base : Nat} {e : TypeId} {size : Nat} {v : Value} {n : Nat} {xs : List Value} {w : World} (h : w.ownsRow base e size v n xs) {a : Addr} (hb : a.block < base) (u : Value) : (w.setCell a u).ownsRow base e size v n xs :=
  ownsRow_setCell_below h hb u

set_option maxRecDepth 100000 in
set_option maxHeartbeats 2000000 in
theorem take_ok (p r : Nat) (us : List Bool) (k : Nat) (w : World) (h : SpAt w p r us) (hk : k ≤ nfree us) :
    Calls Tryz.prog 24 #[.pointer (some ⟨p, 0, none⟩), .int .i64 (k : Int)] w fun e w' => ∃ a cap, e = .returned (.tuple #[.slice a k cap, .nilIface]) ∧
      w'.ownsRow w.heap.size 3 1 (.slice a k cap) k (ints (tk us k us.length).1) ∧ SpAt w' p r (tk us k us.length).2 ∧ Fr (fun b => b = r) w w' := by
  obtain ⟨i0, hi, hz0, hz1, hz2⟩ := info_parts infoI
  have hbig := h.big
  have hnf : nfree us ≤ us.length := by unfold nfree; omega
  have hk1 : k ≤ 512 := by omega
  have hrlt := h.row.lt
  have hplt := h.head.lt
  have hd0 : decide ((k : Int) < 0) = false := by simp
  have hd1 : decide (nfree us < k) = false := by simp; omega
  go_enter Tryz.func24, Tryz.ntmps24
  go_wp2_with fail
  refine (free_any p r us w h).mono ?_
  rintro e w1 ⟨rfl, hb⟩
  have h1 := h.ob hb (Nat.le_refl _)
  go_wp2_with fail
  go_loopw [6, 7] (fun v i wr => ∃ j : Nat, j ≤ us.length ∧ i = .int .i64 j ∧ wr.ownsRow w.heap.size 3 1 v (tk us k j).1.length (ints (tk us k j).1) ∧ SpAt wr p r (tk us k j).2 ∧ Fr (fun b => b = r) w wr) (fun _ i _ => us.length - (intOf i).toNat)
  case atStart => exact ⟨0, by omega, rfl, by simpa [tk, ints] using World.ownsRow_nil w1 w.heap.size 3 1, h1, Fr.ob hb⟩
  case round =>
    obtain ⟨j, hj, rfl, hown, hsp, hfr⟩ := hrel
    obtain ⟨ad, cap, rfl⟩ := owns_slice hown
    have hle : (tk us k j).1.length ≤ k := by rw [tk_len]; omega
    have hl2 := tk_len2 us k j
    by_cases hl : (tk us k j).1.length < k
    · have hlt := tk_stop hk hl
      have hge := tk_ge us k j j true (Nat.le_refl _)
      have hhd := hsp.hd
      rw [hl2] at hhd
      have hcell := hsp.cell (i := j) (getD_some (d := true) (by omega))
      have hfz := hsp.row.frozen j
      rw [hge] at hcell
      cases hu : us.getD j true
      · have H1 := hidd (tk_succ_y hl hu)
        rw [hu] at hcell
        have hsz := hfr.size
        have hsp' := hsp.set j true
        have hown1 := (owns_set hown (a := ⟨r, j, none⟩) (by simpa using hrlt) (.bool true))
        generalize (tk us k j).1 = t1 at *
        generalize (tk us k j).2 = t2 at *
        clear hu h h1 hge
        go_wp2_with (at_builtin; refine wpList_append_own _ rfl _ _ 31 rfl w.heap.size 3 i0 (.int .i64 0) 1 8 Tryz.underlying31 hi hz0 hz1 hz2 rfl (by decide) _ _ _ rfl (hown1.alloc _) ⟨wr.heap.size, 0, none⟩ 1 1 [.int .i64 j] rfl rfl ?c1 ?c2 ?c3 ?c4 ?c5 ?_)
        case c1 => exact cell_one_at _ _ (by simp [World.setCell]) _ _
        case c2 => simp [Value.oneCell']
        case c3 => unfold maxLen; omega
        case c4 => omega
        case c5 => simp [World.setCell]; omega
        intro v' w2 hown' hgrow _
        have hfr2 : Fr (fun b => b = r) w w2 := ((hfr.setCell (p := ⟨r, j, none⟩) (.inl rfl) (.bool true)).alloc _).grown hgrow (fun b hb => .inr (hown1.lt b hb).1)
        have hsp2 : SpAt w2 p r (t2.set j true) := by
          have hs := hsp'.alloc (.cells #[.int .i64 j] 3)
          have hnb : ∀ b, b < w.heap.size → some b ≠ (Value.slice ad t1.length cap).ownBlock := fun b hb e => by have := (hown1.lt b e.symm).1; omega
          exact ⟨hs.head.grown hgrow (hnb p (by assumption)), hs.row.grown hgrow (hnb r hrlt), hs.ne, hs.pos, hs.big⟩
        go_wp2
        go_roundw
        case rel => exact ⟨j+1, by omega, by go_num, by rw [H1.out]; simpa [ints_snoc] using hown', by rw [H1.out]; exact hsp2, hfr2⟩
        case measure => simp [intOf]; omega
      · have H1 := hidd (tk_succ_n (k := k) (i := j) (us := us) (by rw [hu]; decide))
        rw [hu] at hcell
        clear hu h h1 hge
        generalize hT : tk us k j = T at *
        clear hT
        go_wp2
        go_roundw
        case rel => exact ⟨j+1, by omega, by go_num, by rw [H1.out]; exact hown, by rw [H1.out]; exact hsp, hfr⟩
        case measure => simp [intOf]; omega
    · have hd := tk_done hl (us.length - j)
      rw [show j + (us.length - j) = us.length by omega] at hd
      have hk2 : (tk us k j).1.length = k := by omega
      have H1 := hidd hd
      have H2 := hidd hk2
      rw [hk2] at hown
      generalize hT : tk us k j = T at *
      clear hT hd hk2 h h1
      go_wp2
      go_ret2
      exact ⟨ad, cap, by rw [H2.out]; rfl, by rw [H1.out]; exact hown, by rw [H1.out]; exact hsp, hfr⟩
end Go.Proofs.YtcpilhembdphoaaGreatDoor
