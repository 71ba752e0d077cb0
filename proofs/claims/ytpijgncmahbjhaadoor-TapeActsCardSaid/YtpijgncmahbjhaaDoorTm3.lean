/- The contracts of acts on a tape and on its model, alike. Condition: sizes fit, the variables read as listed. -/
import Derived.Test.YtpijgncmahbjhaaDoorTm2
import Derived.Test.YtpijgncmahbjhaaDoorTj
import Derived.Test.YtpijgncmahbjhaaDoorCoded
namespace Go.Proofs.YtpijgncmahbjhaaDoor
open Go.RowKit

/-- What an append does: the bytes, is power off, how many bytes until it fails, the error's number. -/
def apR (bs : ByteArray) (off : Bool) (cut : Int) (s : ByteArray) : ByteArray × Bool × Int × Nat :=
  if 20000 < s.size then (bs, off, cut, 2)
  else if off = true then (bs, off, cut, 13)
  else if 0 ≤ cut ∧ cut < ((recB s).size : Int) then (bs ++ (recB s).extract 0 cut.toNat, true, cut, 13)
  else (bs ++ recB s, false, if 0 ≤ cut then cut - ((recB s).size : Int) else cut, 0)

theorem append_bound (E : Nat → Addr) (p : Nat) (s : ByteArray) (w : World) (hs : 20000 < s.size) (B : Nat) (G : List Nat) (hE : Env G B w E) (hg : 0 ∈ G) :
    Calls Tryd.prog 8 #[.pointer (some ⟨p, 0, none⟩), .string s] w fun e w' => e = .returned (erv E 0) ∧ w = w' := by
  have hc := hE.cell _ hg
  have z1 : decide ((20000 : Int) < (s.size : Int)) = true := decide_eq_true (by omega)
  have z1' : decide (20000 < s.size) = true := decide_eq_true hs
  unfold erv at *
  clear hE
  go_enter Tryd.func8, Tryd.ntmps8
  go_wp2_with fail
  go_ret
  exact ⟨rfl, rfl⟩

/-- What an append leaves, whichever it is. -/
def AlPost (E : Nat → Addr) (p : Nat) (v : Value) (r : ByteArray × Bool × Int × Nat) (w : World) (e : Ending) (w' : World) : Prop :=
  ∃ ev v', e = .returned ev ∧ Coded E ev r.2.2.2 ∧ TdAt w' p v' r.1 r.2.1 r.2.2.1 ∧ (∀ b, v'.ownBlock = some b → v.ownBlock = some b ∨ w.heap.size ≤ b) ∧ Fr (tdS p v) w w'

theorem append_all (E : Nat → Addr) (p : Nat) (v : Value) (bs : ByteArray) (off : Bool) (cut : Int) (s : ByteArray) (w : World) (h : TdAt w p v bs off cut) (hT : TEnv w) (hcu : cut ≤ 9223372036854775807) (hfit : bs.size ≤ 1000000)
    (B : Nat) (hE : Env codeGs B w E) (hB : B ≤ p ∧ ∀ g, v.ownBlock = some g → B ≤ g) :
    Calls Tryd.prog 8 #[.pointer (some ⟨p, 0, none⟩), .string s] w (AlPost E p v (apR bs off cut s) w) := by
  unfold apR
  by_cases hs : 20000 < s.size
  · rw [if_pos hs]
    refine (append_bound E p s w hs B codeGs hE (by decide)).mono ?_
    rintro e w' ⟨rfl, rfl⟩
    exact ⟨_, v, rfl, .inr ⟨1, by omega, rfl, rfl⟩, h, fun b hb => .inl hb, Fr.refl _ _⟩
  · have hrb := recB_le s (by omega)
    rw [if_neg hs]
    cases off
    · rw [if_neg (by decide)]
      by_cases hc : 0 ≤ cut ∧ cut < ((recB s).size : Int)
      · rw [if_pos hc]
        obtain ⟨cn, rfl⟩ := Int.eq_ofNat_of_zero_le hc.1
        refine (append_torn E p v bs cn s w h hT (by omega) (by omega) (by omega) B codeGs hE (by decide) hB).mono ?_
        rintro e w' ⟨rfl, v', h1, h2, h3⟩
        exact ⟨_, v', rfl, .inr ⟨12, by omega, rfl, rfl⟩, h1, h2, h3⟩
      · rw [if_neg hc]
        by_cases h0 : 0 ≤ cut
        · refine (append_room p v bs cut s w h hT (by omega) hcu (by omega) (by omega)).mono ?_
          rintro e w' ⟨rfl, v', h1, h2, h3⟩
          exact ⟨_, v', rfl, .inl ⟨rfl, rfl⟩, by simp only [if_pos h0]; exact h1, h2, h3⟩
        · refine (append_free p v bs cut s w h hT (by omega) (by omega) (by omega)).mono ?_
          rintro e w' ⟨rfl, v', h1, h2, h3⟩
          exact ⟨_, v', rfl, .inl ⟨rfl, rfl⟩, by simp only [if_neg h0]; exact h1, h2, h3⟩
    · rw [if_pos rfl]
      refine (append_off E p v bs cut s w h hT (by omega) (by omega) B codeGs hE (by decide)).mono ?_
      rintro e w' ⟨rfl, hb⟩
      exact ⟨_, v, rfl, .inr ⟨12, by omega, rfl, rfl⟩, h.ob hb (Nat.le_refl _), fun b hb => .inl hb, Fr.ob hb⟩

/-- The model's tape: its struct lies in block q. -/
def MdAt (w : World) (q : Nat) (bs : ByteArray) (off : Bool) (cut : Int) : Prop := Blk w q [.string bs, .bool off, .int .i64 cut] 42

def MaPost (q : Nat) (r : ByteArray × Bool × Int × Nat) (w : World) (e : Ending) (w' : World) : Prop :=
  e = .returned (.int .i64 (r.2.2.2 : Int)) ∧ MdAt w' q r.1 r.2.1 r.2.2.1 ∧ Fr (fun b => b = q) w w'

set_option maxRecDepth 100000 in
set_option maxHeartbeats 8000000 in
theorem mappend_all (q : Nat) (bs : ByteArray) (off : Bool) (cut : Int) (s : ByteArray) (w : World) (h : MdAt w q bs off cut) (hcu : cut ≤ 9223372036854775807) (hfit : bs.size ≤ 1000000) :
    Calls Tryd.prog 16 #[.pointer (some ⟨q, 0, none⟩), .string s] w (MaPost q (apR bs off cut s) w) := by
  unfold apR
  by_cases hs : 20000 < s.size
  · rw [if_pos hs]
    have z1 : decide ((20000 : Int) < (s.size : Int)) = true := decide_eq_true (by omega)
    have z1' : decide (20000 < s.size) = true := decide_eq_true hs
    go_enter Tryd.func16, Tryd.ntmps16
    go_wp2_with fail
    go_ret
    exact ⟨rfl, h, Fr.refl _ _⟩
  · have hrb := recB_le s (by omega)
    rw [if_neg hs]
    have z1 : decide ((20000 : Int) < (s.size : Int)) = false := decide_eq_false (by omega)
    have z1' : decide (20000 < s.size) = false := decide_eq_false hs
    have hs9 : s.size ≤ 9999999 := by omega
    obtain ⟨r, hr⟩ : ∃ r, recB s = r := ⟨_, rfl⟩
    rw [hr] at hrb ⊢
    have HR := hidd hr
    have z2 : decide ((1048576 : Int) < (bs.size : Int) + (r.size : Int)) = false := decide_eq_false (by omega)
    have z2' : decide (1048576 < bs.size + r.size) = false := decide_eq_false (by omega)
    have hq := Blk.lt h
    cases off
    · rw [if_neg (by decide)]
      by_cases hc : 0 ≤ cut ∧ cut < (r.size : Int)
      · rw [if_pos hc]
        obtain ⟨cn, rfl⟩ := Int.eq_ofNat_of_zero_le hc.1
        have w1 : decide (0 ≤ (cn : Int)) = true := decide_eq_true hc.1
        have w1' : (0 : Int) ≤ (cn : Int) := hc.1
        have w3 : decide ((cn : Int) < (r.size : Int)) = true := decide_eq_true hc.2
        have w4 : (cn : Int) ≤ (r.size : Int) := by omega
        have w5 : decide (cn < r.size) = true := decide_eq_true (by omega)
        have w6 : ¬ (9223372036854775807 < bs.size + min cn r.size) := by omega
        simp only [Int.toNat_natCast]
        clear hc hr
        go_enter Tryd.func16, Tryd.ntmps16
        go_wp2_with fail
        refine (mrecord_any s _ hs9).mono ?_
        rintro e w2 ⟨rfl, hb⟩
        rw [HR.out]
        have h2 : Blk w2 q [.string bs, .bool false, .int .i64 (cn : Int)] 42 := Blk.below h hb hq
        have c0 := h2.cell (i := 0) (v := .string bs) rfl
        have c1 := h2.cell (i := 1) (v := .bool false) rfl
        have c2 := h2.cell (i := 2) (v := .int .i64 (cn : Int)) rfl
        have f0 := h2.frozen 0
        have f1 := h2.frozen 1
        go_wp2_with fail
        have k0 : w2.drew.cell? ⟨q, 0, none⟩ = some (.string bs) := c0
        have k2 : w2.drew.cell? ⟨q, 2, none⟩ = some (.int .i64 (cn : Int)) := c2
        have j0 : w2.drew.frozen? ⟨q, 0, none⟩ = false := f0
        go_region_law (fail)
        all_goals
          go_wp2_with fail
          go_ret
          exact ⟨rfl, (h2.drew.set 0 _).set 1 _, (((Fr.ob (S := fun b => b = q) hb).drew).setCell (p := ⟨q, 0, none⟩) (.inl rfl) _).setCell (p := ⟨q, 1, none⟩) (.inl rfl) _⟩
      · rw [if_neg hc]
        by_cases h0 : 0 ≤ cut
        · have w1 : decide (0 ≤ cut) = true := decide_eq_true h0
          have w3 : decide (cut < (r.size : Int)) = false := decide_eq_false (by omega)
          rw [if_pos h0]
          clear hc hr
          go_enter Tryd.func16, Tryd.ntmps16
          go_wp2_with fail
          refine (mrecord_any s _ hs9).mono ?_
          rintro e w2 ⟨rfl, hb⟩
          rw [HR.out]
          have h2 : Blk w2 q [.string bs, .bool false, .int .i64 cut] 42 := Blk.below h hb hq
          have c0 := h2.cell (i := 0) (v := .string bs) rfl
          have c1 := h2.cell (i := 1) (v := .bool false) rfl
          have c2 := h2.cell (i := 2) (v := .int .i64 cut) rfl
          have f0 := h2.frozen 0
          have f2 := h2.frozen 2
          go_wp2_with fail
          go_ret
          exact ⟨rfl, (h2.set 2 _).set 0 _, ((Fr.ob (S := fun b => b = q) hb).setCell (p := ⟨q, 2, none⟩) (.inl rfl) _).setCell (p := ⟨q, 0, none⟩) (.inl rfl) _⟩
        · have w1 : decide (0 ≤ cut) = false := decide_eq_false h0
          rw [if_neg h0]
          clear hc hr
          go_enter Tryd.func16, Tryd.ntmps16
          go_wp2_with fail
          refine (mrecord_any s _ hs9).mono ?_
          rintro e w2 ⟨rfl, hb⟩
          rw [HR.out]
          have h2 : Blk w2 q [.string bs, .bool false, .int .i64 cut] 42 := Blk.below h hb hq
          have c0 := h2.cell (i := 0) (v := .string bs) rfl
          have c1 := h2.cell (i := 1) (v := .bool false) rfl
          have c2 := h2.cell (i := 2) (v := .int .i64 cut) rfl
          have f0 := h2.frozen 0
          go_wp2_with fail
          go_ret
          exact ⟨rfl, h2.set 0 _, (Fr.ob (S := fun b => b = q) hb).setCell (p := ⟨q, 0, none⟩) (.inl rfl) _⟩
    · rw [if_pos rfl]
      clear hr
      go_enter Tryd.func16, Tryd.ntmps16
      go_wp2_with fail
      refine (mrecord_any s _ hs9).mono ?_
      rintro e w2 ⟨rfl, hb⟩
      rw [HR.out]
      have h2 : Blk w2 q [.string bs, .bool true, .int .i64 cut] 42 := Blk.below h hb hq
      have c0 := h2.cell (i := 0) (v := .string bs) rfl
      have c1 := h2.cell (i := 1) (v := .bool true) rfl
      go_wp2_with fail
      go_ret
      exact ⟨rfl, h2, Fr.ob hb⟩

/-- A cut of power: the bytes until it fails, the error's number. -/
def cutR (off : Bool) (cut n : Int) : Int × Nat := if n < 0 then (cut, 2) else if off = true then (cut, 13) else (n, 0)

def ClPost (E : Nat → Addr) (p : Nat) (v : Value) (bs : ByteArray) (off : Bool) (r : Int × Nat) (w : World) (e : Ending) (w' : World) : Prop :=
  ∃ ev, e = .returned ev ∧ Coded E ev r.2 ∧ TdAt w' p v bs off r.1 ∧ Fr (fun b => b = p) w w'
theorem cut_all (E : Nat → Addr) (p : Nat) (v : Value) (bs : ByteArray) (off : Bool) (cut n : Int) (w : World) (h : TdAt w p v bs off cut) (B : Nat) (hE : Env codeGs B w E) :
    Calls Tryd.prog 12 #[.pointer (some ⟨p, 0, none⟩), .int .i64 n] w (ClPost E p v bs off (cutR off cut n) w) := by
  unfold cutR
  by_cases hn : n < 0
  · rw [if_pos hn]
    have hc := hE.cell 0 (by decide)
    have z : decide (n < 0) = true := decide_eq_true hn
    unfold erv at hc
    clear hE
    go_enter Tryd.func12, Tryd.ntmps12
    go_wp2_with fail
    go_ret
    exact ⟨_, rfl, .inr ⟨1, by omega, rfl, rfl⟩, h, Fr.refl _ _⟩
  · rw [if_neg hn]
    have z : decide (n < 0) = false := decide_eq_false hn
    cases off
    · rw [if_neg (by decide)]
      refine (cut_ok p v bs cut n w h (by omega)).mono ?_
      rintro e w' ⟨rfl, h1, h2⟩
      exact ⟨_, rfl, .inl ⟨rfl, rfl⟩, h1, h2⟩
    · rw [if_pos rfl]
      have hc := hE.cell 3 (by decide)
      have h1 := h.c1
      unfold erv at hc
      clear hE
      go_enter Tryd.func12, Tryd.ntmps12
      go_wp2_with fail
      go_ret
      exact ⟨_, rfl, .inr ⟨12, by omega, rfl, rfl⟩, h, Fr.refl _ _⟩

def MlPost (q : Nat) (bs : ByteArray) (off : Bool) (r : Int × Nat) (w : World) (e : Ending) (w' : World) : Prop :=
  e = .returned (.int .i64 (r.2 : Int)) ∧ MdAt w' q bs off r.1 ∧ Fr (fun b => b = q) w w'
theorem mcut_all (q : Nat) (bs : ByteArray) (off : Bool) (cut n : Int) (w : World) (h : MdAt w q bs off cut) :
    Calls Tryd.prog 17 #[.pointer (some ⟨q, 0, none⟩), .int .i64 n] w (MlPost q bs off (cutR off cut n) w) := by
  unfold cutR
  have h' : Blk w q [.string bs, .bool off, .int .i64 cut] 42 := h
  have c1 := h'.cell (i := 1) (v := .bool off) rfl
  have c2 := h'.cell (i := 2) (v := .int .i64 cut) rfl
  have f2 := h'.frozen 2
  by_cases hn : n < 0
  · rw [if_pos hn]
    have z : decide (n < 0) = true := decide_eq_true hn
    go_enter Tryd.func17, Tryd.ntmps17
    go_wp2_with fail
    go_ret
    exact ⟨rfl, h, Fr.refl _ _⟩
  · rw [if_neg hn]
    have z : decide (n < 0) = false := decide_eq_false hn
    cases off
    · rw [if_neg (by decide)]
      go_enter Tryd.func17, Tryd.ntmps17
      go_wp2_with fail
      go_ret
      exact ⟨rfl, h'.set 2 _, (Fr.refl (fun b => b = q) w).setCell (p := ⟨q, 2, none⟩) (.inl rfl) _⟩
    · rw [if_pos rfl]
      go_enter Tryd.func17, Tryd.ntmps17
      go_wp2_with fail
      go_ret
      exact ⟨rfl, h, Fr.refl _ _⟩

def MrPost (q : Nat) (bs : ByteArray) (w : World) (e : Ending) (w' : World) : Prop :=
  ∃ (l : List ByteArray) (t : List UInt8) (u : Value), Rd bs.data.toList l t ∧ e = .returned u ∧ Ow (fun g => w.heap.size ≤ g) w' 9 1 u l.length (tcells l) ∧
    MdAt w' q (bs.extract 0 (recs l).length) false (-1) ∧ Fr (fun b => b = q) w w'
set_option maxRecDepth 100000 in
theorem mrecover_any (q : Nat) (bs : ByteArray) (off : Bool) (cut : Int) (w : World) (h : MdAt w q bs off cut) (hb : bs.size ≤ 4000000) :
    Calls Tryd.prog 19 #[.pointer (some ⟨q, 0, none⟩)] w (MrPost q bs w) := by
  have h' : Blk w q [.string bs, .bool off, .int .i64 cut] 42 := h
  have c0 := h'.cell (i := 0) (v := .string bs) rfl
  have hq := h'.lt
  go_enter Tryd.func19, Tryd.ntmps19
  go_wp2_with fail
  refine (mread_any bs w hb).mono ?_
  rintro e w1 ⟨⟨l, t, u, hrd, rfl, hown⟩, hb1⟩
  have h1 := h'.below hb1 hq
  have hlen : (recs l).length ≤ bs.size := by rw [← size_toList, hrd.1]; simp
  have c01 := h1.cell (i := 0) (v := .string bs) rfl
  have c11 := h1.cell (i := 1) (v := .bool off) rfl
  have c21 := h1.cell (i := 2) (v := .int .i64 cut) rfl
  have f0 := h1.frozen 0
  have f1 := h1.frozen 1
  have f2 := h1.frozen 2
  have HRD := hidd hrd
  clear hrd c0
  generalize hn : (recs l).length = n at *
  have HN := hidd hn
  clear hn
  have q1 : (0 : Int) ≤ (n : Int) := by omega
  have q2 : (n : Int) ≤ (bs.size : Int) := by omega
  go_wp2_with fail
  go_ret
  refine ⟨l, t, u, HRD.out, rfl, ((hown.set (a := ⟨q, 0, none⟩) (Nat.not_le.2 hq) _).set (a := ⟨q, 1, none⟩) (Nat.not_le.2 hq) _).set (a := ⟨q, 2, none⟩) (Nat.not_le.2 hq) _, ?_, (((Fr.ob (S := fun b => b = q) hb1).setCell (p := ⟨q, 0, none⟩) (.inl rfl) _).setCell (p := ⟨q, 1, none⟩) (.inl rfl) _).setCell (p := ⟨q, 2, none⟩) (.inl rfl) _⟩
  rw [HN.out]
  exact ((h1.set 0 _).set 1 _).set 2 _
end Go.Proofs.YtpijgncmahbjhaaDoor
