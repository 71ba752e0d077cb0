/- The contract of path.Split. Condition: the text is no longer than memory reaches, the variables read as listed. -/
import Derived.Test.YtbadnmfmncjdjaaGreatDoorPaP
import Derived.Test.YtbadnmfmncjdjaaGreatDoorTrK
import Derived.Test.YtbadnmfmncjdjaaGreatDoorTxt
import Derived.Test.YtbadnmfmncjdjaaGreatDoorShelf
namespace Go.Proofs.YtbadnmfmncjdjaaGreatDoor
open Go.RowKit Go.Shelf

/-- The library's own number reads as some number. -/
def Ml (w : World) : Prop := ∃ m, w.cell? ⟨14, 0, none⟩ = some (.int .i64 m)
theorem Ml.ob {w w' : World} (h : Ml w) (hb : Below w.heap.size w w') : Ml w' := by
  obtain ⟨m, hm⟩ := h
  exact ⟨m, (hb.cell (p := ⟨14, 0, none⟩) (World.block_lt_of_cell? w _ hm)).trans hm⟩
theorem Ml.of_shaped {w : World} (h : w.ShapedOpen Tryz.prog) : Ml w := Tryz.laysM146.s1_3 w h

theorem ssplit_any (s : ByteArray) (w : World) (hM : Ml w) (hs : s.size < 4294967281) {a : ByteArray} {r : List ByteArray} (hp : pieces s = a :: r) :
    Calls Tryz.prog 50 #[.string s, .string ⟨#[47]⟩] w fun e w' => e = .returned (.slice (some ⟨w.heap.size, 0, none⟩) (r.length + 1) (r.length + 1)) ∧ w' = w.alloc (.cells (tcells (a :: r)).toArray 9) := by
  obtain ⟨m, hm⟩ := hM
  have h := Any.strings_Split { Tryz.laysM146 with } Tryz.laysM146.i9 s ⟨#[47]⟩ m w hs hm (by decide)
  rw [split_pieces, pieces_len, hp] at h
  exact h

set_option maxRecDepth 100000 in
theorem spl_cl (x : ByteArray) (w : World) (hs : x.size ≤ 9223372036854775807) :
    Calls Tryz.prog 52 #[.string x] w fun e w' => e = .returned (.bool (!isName x)) ∧ Below w.heap.size w w' := by
  have HC := hidd (name_any x w hs)
  cases hn : isName x
  all_goals
    rw [hn] at HC
    clear hn
    go_enter Tryz.func52, Tryz.ntmps52
    go_wp2_with fail
    refine HC.out.mono ?_
    rintro e w' ⟨rfl, hb⟩
    go_wp2_with fail
    go_ret
    exact ⟨rfl, hb⟩
def badS (x : ByteArray) : Bool := !isName x

set_option maxRecDepth 100000 in
set_option maxHeartbeats 2000000 in
theorem str_idx (l : List ByteArray) (v : Value) (w : World) (hl : Sl w v (tcells l) l.length 1) (hsz : ∀ x ∈ l, x.size ≤ 9223372036854775807) :
    Calls Tryz.prog 75 #[v, .func (.func 52) #[] #[]] w (IdxK (l.any badS) w) := by
  obtain ⟨a, cap, rfl, -⟩ := id hl
  have hm := hl.le
  go_enter Tryz.func75, Tryz.ntmps75
  go_wp2_with fail
  go_loopw [8] (fun i wr => ∃ k : Nat, k ≤ l.length ∧ i = .int .i64 (k : Int) ∧ (l.take k).any badS = false ∧ Below w.heap.size w wr) (fun i _ => l.length - (intOf i).toNat)
  case atStart => exact ⟨0, Nat.zero_le _, rfl, by simp, Below.refl _ _⟩
  case round =>
    obtain ⟨k, hk, rfl, hnot, hbel⟩ := hrel
    by_cases hlt : k < l.length
    · have hA := hl.ob hbel (Nat.le_refl _)
      obtain ⟨b, off, rfl, hb, hc, hcell⟩ := hA.at1 hlt
      rw [show (tcells l)[k] = .string l[k] by simp [tcells]] at hcell
      have hnm := hsz _ (List.getElem_mem hlt)
      have p1 : (0 : Int) ≤ (k : Int) := by omega
      have p2 : (k : Int) < (l.length : Int) := by omega
      have hs : (l.take (k + 1)).any badS = badS l[k] := by
        rw [List.take_succ_eq_append_getElem hlt, List.any_append, hnot]; simp
      have hin : badS l[k] = true → l.any badS = true := fun h => by rw [List.any_eq_true]; exact ⟨l[k], List.getElem_mem _, h⟩
      generalize l[k] = x at *
      have HC := hidd (spl_cl x wr hnm)
      cases hx : badS x
      · have hx' : (!isName x) = false := hx
        rw [hx'] at HC
        rw [hx] at hs
        have HS := hidd hs
        clear hs hin hx hx' hnot hA hl
        go_wp2_with fail
        refine HC.out.mono ?_
        rintro e w5 ⟨rfl, hb5⟩
        have hB5 := hbel.trans (hb5.mono hbel.size)
        clear hcell hb5
        go_wp2_with fail
        go_roundw
        case rel => exact ⟨k + 1, by omega, by go_num, HS.out, hB5⟩
        case measure => simp [intOf]; omega
      · have hx' : (!isName x) = true := hx
        rw [hx'] at HC
        have HI := hidd (hin hx)
        clear hs hin hx hx' hnot hA hl
        go_wp2_with fail
        refine HC.out.mono ?_
        rintro e w5 ⟨rfl, hb5⟩
        have hB5 := hbel.trans (hb5.mono hbel.size)
        clear hcell hb5
        go_wp2_with fail
        go_ret
        exact ⟨⟨_, rfl, by simp [HI.out]⟩, hB5⟩
    · rw [List.take_of_length_le (by omega)] at hnot
      have HI := hidd hnot
      clear hnot hl
      go_wp2_with fail
      go_ret
      exact ⟨⟨-1, rfl, by simp [HI.out]⟩, hbel⟩

theorem str_cf (l : List ByteArray) (v : Value) (w : World) (hl : Sl w v (tcells l) l.length 1) (hsz : ∀ x ∈ l, x.size ≤ 9223372036854775807) (q : Bool) (hq : l.any badS = q) :
    Calls Tryz.prog 51 #[v, .func (.func 52) #[] #[]] w fun e w' => e = .returned (.bool q) ∧ Below w.heap.size w w' := by
  have HC := hidd (str_idx l v w hl hsz)
  rw [hq] at HC
  clear hq hl hsz
  cases q
  · go_enter Tryz.func51, Tryz.ntmps51
    go_wp2_with fail
    refine HC.out.mono ?_
    rintro e w' ⟨⟨k, rfl, hk⟩, hb⟩
    have hk0 : ¬ 0 ≤ k := fun h0 => by have := hk.1 h0; cases this
    clear hk
    go_wp2_with fail
    go_ret
    exact ⟨ret_bool (by simp; omega), hb⟩
  · go_enter Tryz.func51, Tryz.ntmps51
    go_wp2_with fail
    refine HC.out.mono ?_
    rintro e w' ⟨⟨k, rfl, hk⟩, hb⟩
    have hk0 : 0 ≤ k := hk.2 rfl
    clear hk
    go_wp2_with fail
    go_ret
    exact ⟨ret_bool (by simp), hb⟩

/-- What path.Split gives. -/
def SplP (E : Nat → Addr) (s : ByteArray) (w : World) (e : Ending) (w' : World) : Prop :=
  Below w.heap.size w w' ∧ ((∃ l v, splitOf s = some l ∧ e = .returned (.tuple #[v, .nilIface]) ∧ Sl w' v (tcells l) l.length 1) ∨ (splitOf s = none ∧ e = .returned (.tuple #[.slice none 0 0, evc E 5])))

set_option maxRecDepth 100000 in
set_option maxHeartbeats 4000000 in
theorem split_any (E : Nat → Addr) (B : Nat) (s : ByteArray) (w : World) (hE : Env trGs B w E) (hM : Ml w) (hs : s.size < 4294967281) :
    Calls Tryz.prog 25 #[.string s] w (SplP E s w) := by
  by_cases h0 : s.data.toList = [47]
  · have q0 : (s.toList == [47]) = true := by rw [Lib.toList_data, h0]; rfl
    have HF := hidd (splitOf_stroke h0)
    clear h0
    go_enter Tryz.func25, Tryz.ntmps25
    go_wp2_with fail
    go_ret2
    exact ⟨Below.refl _ _, .inl ⟨[], _, HF.out, rfl, Sl.nil _ _⟩⟩
  have q0 : (s.toList == [47]) = false := by rw [Lib.toList_data]; simpa using h0
  obtain ⟨a, r, hp⟩ : ∃ a r, pieces s = a :: r := by
    cases hp : pieces s with
    | nil => exact absurd hp (pieces_ne s)
    | cons a r => exact ⟨a, r, rfl⟩
  have hso := splitOf_pieces h0 hp
  have HSP := hidd (ssplit_any s w hM hs hp)
  have hsz : ∀ x ∈ r, x.size ≤ 9223372036854775807 := fun x hx => by
    have := pieces_size (s := s) (p := x) (by rw [hp]; exact List.mem_cons_of_mem _ hx)
    omega
  have hB1 : Below w.heap.size w (w.alloc (.cells (tcells (a :: r)).toArray 9)) := (Below.refl _ _).alloc (Nat.le_refl _) _
  have hbk := Blk.new w (tcells (a :: r)) 9
  have x0 := hbk.cell (i := 0) (v := .string a) rfl
  have hcE := (hE.ob hB1).cell 2 (by decide)
  unfold erv at hcE
  have hrl : r.length ≤ 4294967281 := by
    have h1 := pieces_len s
    have h2 := Lib.countB_le ⟨#[47]⟩ (by decide) s.size s (Nat.le_refl _)
    rw [hp] at h1
    simp only [List.length_cons] at h1
    omega
  have hslr : Sl (w.alloc (.cells (tcells (a :: r)).toArray 9)) (.slice (some ⟨w.heap.size, 1, none⟩) r.length r.length) (tcells r) r.length 1 :=
    ⟨_, _, rfl, by rw [tcells_len, Nat.mul_one], Nat.le_refl _, by unfold maxLen; omega, .inr ⟨w.heap.size, 1, rfl, hbk.lt, fun j hj => hbk.cell (by
      rw [tcells, List.map_cons, Nat.add_comm, List.getElem?_cons_succ]
      exact List.getElem?_eq_getElem hj)⟩⟩
  have HSL := hidd hslr
  have HSZ := hidd hsz
  have HE5 := hidd (hE.ob hB1)
  have HSO := hidd hso
  clear hsz hslr hE hM hp h0 hso hs hbk
  have hzr : tcells (a :: r) = .string a :: tcells r := rfl
  obtain ⟨cs, hcs⟩ : ∃ cs, (tcells (a :: r)).toArray = cs := ⟨_, rfl⟩
  rw [hcs] at HSP HSL HE5 hB1 x0 hcE
  clear hcs hzr
  by_cases ha : a.data.toList = []
  · have z2 : a.toList = [] := by rw [Lib.toList_data]; exact ha
    by_cases h1 : 1 ≤ r.length
    · by_cases h8 : r.length ≤ 8
      · cases hall : r.all isName with
        | true =>
          have HF : Hid (splitOf s = some r) := hidd (by rw [HSO.out, if_pos ⟨ha, h1, h8, hall⟩])
          have HCF := hidd (fun W h => str_cf r (.slice (some ⟨w.heap.size, 1, none⟩) r.length r.length) W h HSZ.out false (by
            rw [List.any_eq_false]
            intro x hx
            rw [List.all_eq_true] at hall
            simp [badS, hall x hx]))
          obtain ⟨n, hn⟩ : ∃ n, r.length = n := ⟨_, rfl⟩
          have HN := hidd hn
          rw [hn] at HSP HSL HCF h1 h8 hrl
          have e1 : decide (((n : Int) + 1) < 2) = false := decide_eq_false (by omega)
          have e2 : decide ((8 : Int) < (n : Int)) = false := decide_eq_false (by omega)
          have e3 : (n : Int) + 1 - 1 = n := by omega
          have p1 : (1 : Int) ≤ (n : Int) + 1 := by omega
          clear hn hall ha HSO HSZ
          go_enter Tryz.func25, Tryz.ntmps25
          go_wp2_with fail
          refine HSP.out.mono ?_
          rintro e w1 ⟨rfl, rfl⟩
          go_wp2_with fail
          refine (HCF.out _ HSL.out).mono ?_
          rintro e w2 ⟨rfl, hb2⟩
          go_wp2_with fail
          go_ret2
          exact ⟨hB1.trans (hb2.mono hB1.size), .inl ⟨r, _, HF.out, rfl, by have := HSL.out.ob hb2 (Nat.le_refl _); rw [HN.out]; exact this⟩⟩
        | false =>
          have HF : Hid (splitOf s = none) := hidd (by rw [HSO.out, if_neg (by rw [hall]; simp)])
          have HCF := hidd (fun W h => str_cf r (.slice (some ⟨w.heap.size, 1, none⟩) r.length r.length) W h HSZ.out true (by
            rw [List.any_eq_true]
            rw [List.all_eq_false] at hall
            obtain ⟨x, hx, hn⟩ := hall
            exact ⟨x, hx, by simpa [badS] using hn⟩))
          obtain ⟨n, hn⟩ : ∃ n, r.length = n := ⟨_, rfl⟩
          rw [hn] at HSP HSL HCF h1 h8 hrl
          have e1 : decide (((n : Int) + 1) < 2) = false := decide_eq_false (by omega)
          have e2 : decide ((8 : Int) < (n : Int)) = false := decide_eq_false (by omega)
          have e3 : (n : Int) + 1 - 1 = n := by omega
          have p1 : (1 : Int) ≤ (n : Int) + 1 := by omega
          clear hn hall ha HSO HSZ
          go_enter Tryz.func25, Tryz.ntmps25
          go_wp2_with fail
          refine HSP.out.mono ?_
          rintro e w1 ⟨rfl, rfl⟩
          go_wp2_with fail
          refine (HCF.out _ HSL.out).mono ?_
          rintro e w2 ⟨rfl, hb2⟩
          have hcE2 := (HE5.out.ob hb2).cell 2 (by decide)
          unfold erv at hcE2
          have hB2 := hB1.trans (hb2.mono hB1.size)
          clear hb2
          go_wp2_with fail
          go_quiet (fail)
          go_wp2_with fail
          go_ret2
          exact ⟨hB2.trans ((Below.drewN _ _ _).mono hB2.size), .inr ⟨HF.out, rfl⟩⟩
      · have HF : Hid (splitOf s = none) := hidd (by rw [HSO.out, if_neg (fun h => h8 h.2.2.1)])
        obtain ⟨n, hn⟩ : ∃ n, r.length = n := ⟨_, rfl⟩
        rw [hn] at HSP HSL h1 h8 hrl
        have e1 : decide (((n : Int) + 1) < 2) = false := decide_eq_false (by omega)
        have e2 : decide ((8 : Int) < (n : Int)) = true := decide_eq_true (by omega)
        have e3 : (n : Int) + 1 - 1 = n := by omega
        have p1 : (1 : Int) ≤ (n : Int) + 1 := by omega
        clear hn ha HSO HSZ
        go_enter Tryz.func25, Tryz.ntmps25
        go_wp2_with fail
        refine HSP.out.mono ?_
        rintro e w1 ⟨rfl, rfl⟩
        go_wp2_with fail
        go_quiet (fail)
        go_wp2_with fail
        go_ret2
        exact ⟨hB1.trans ((Below.drewN _ _ _).mono hB1.size), .inr ⟨HF.out, rfl⟩⟩
    · have HF : Hid (splitOf s = none) := hidd (by rw [HSO.out, if_neg (fun h => h1 h.2.1)])
      obtain ⟨n, hn⟩ : ∃ n, r.length = n := ⟨_, rfl⟩
      rw [hn] at HSP HSL h1 hrl
      have e1 : decide (((n : Int) + 1) < 2) = true := decide_eq_true (by omega)
      have p1 : (1 : Int) ≤ (n : Int) + 1 := by omega
      clear hn ha HSO HSZ
      go_enter Tryz.func25, Tryz.ntmps25
      go_wp2_with fail
      refine HSP.out.mono ?_
      rintro e w1 ⟨rfl, rfl⟩
      go_wp2_with fail
      go_quiet (fail)
      go_wp2_with fail
      go_ret2
      exact ⟨hB1.trans ((Below.drewN _ _ _).mono hB1.size), .inr ⟨HF.out, rfl⟩⟩
  · have z2 : (a.toList == []) = false := by rw [Lib.toList_data]; simpa using ha
    have HF : Hid (splitOf s = none) := hidd (by rw [HSO.out, if_neg (fun h => ha h.1)])
    obtain ⟨n, hn⟩ : ∃ n, r.length = n := ⟨_, rfl⟩
    rw [hn] at HSP HSL hrl
    have p1 : (1 : Int) ≤ (n : Int) + 1 := by omega
    clear hn ha HSO HSZ
    go_enter Tryz.func25, Tryz.ntmps25
    go_wp2_with fail
    refine HSP.out.mono ?_
    rintro e w1 ⟨rfl, rfl⟩
    go_wp2_with fail
    go_quiet (fail)
    go_wp2_with fail
    go_ret2
    exact ⟨hB1.trans ((Below.drewN _ _ _).mono hB1.size), .inr ⟨HF.out, rfl⟩⟩
end Go.Proofs.YtbadnmfmncjdjaaGreatDoor
