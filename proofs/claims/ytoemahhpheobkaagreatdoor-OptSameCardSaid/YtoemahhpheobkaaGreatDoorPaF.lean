/- The contract of path.Split. Condition: the text is no longer than memory reaches, the variables read as listed. · The contract of path.at. Condition: the tree is there, and well. · The contracts of path.names and path.Get. Condition: the tree is there, the text is no longer than memory reaches, the variables read as listed. · Trees and paths in plain words: each node is at its names, its path splits into them; the files' paths. Condition: the tree is well. · Links followed, in plain words. Condition: the tree is well. -/
import Derived.Test.YtoemahhpheobkaaGreatDoorPaK
import Derived.Test.YtoemahhpheobkaaGreatDoorTrC
import Derived.Test.YtoemahhpheobkaaGreatDoorTxt
import Derived.Test.YtoemahhpheobkaaGreatDoorShelf
import Derived.Test.YtoemahhpheobkaaGreatDoorTrFU
import Derived.Laws.ResultCell
import Derived.Test.YtoemahhpheobkaaGreatDoorRf
namespace Go.Proofs.YtoemahhpheobkaaGreatDoor
open Go.RowKit Go.Shelf

/-- The library's own number reads as some number. -/
def Ml (w : World) : Prop := ∃ m, w.cell? ⟨10, 0, none⟩ = some (.int .i64 m)
theorem Ml.ob {w w' : World} (h : Ml w) (hb : Below w.heap.size w w') : Ml w' := by
  obtain ⟨m, hm⟩ := h
  exact ⟨m, (hb.cell (p := ⟨10, 0, none⟩) (World.block_lt_of_cell? w _ hm)).trans hm⟩
theorem Ml.of_shaped {w : World} (h : w.ShapedOpen Tryz.prog) : Ml w := Tryz.laysM146.s1_3 w h

theorem ssplit_any (s : ByteArray) (w : World) (hM : Ml w) (hs : s.size < 4294967281) {a : ByteArray} {r : List ByteArray} (hp : pieces s = a :: r) :
    Calls Tryz.prog 74 #[.string s, .string ⟨#[47]⟩] w fun e w' => e = .returned (.slice (some ⟨w.heap.size, 0, none⟩) (r.length + 1) (r.length + 1)) ∧ w' = w.alloc (.cells (tcells (a :: r)).toArray 9) := by
  obtain ⟨m, hm⟩ := hM
  have h := Any.strings_Split { Tryz.laysM146 with } Tryz.laysM146.i9 s ⟨#[47]⟩ m w hs hm (by decide)
  rw [split_pieces, pieces_len, hp] at h
  exact h

set_option maxRecDepth 100000 in
theorem spl_cl (x : ByteArray) (w : World) (hs : x.size ≤ 9223372036854775807) :
    Calls Tryz.prog 76 #[.string x] w fun e w' => e = .returned (.bool (!isName x)) ∧ Below w.heap.size w w' := by
  have HC := hidd (name_any x w hs)
  cases hn : isName x
  all_goals
    rw [hn] at HC
    clear hn
    go_enter Tryz.func76, Tryz.ntmps76
    go_wp2_with fail
    refine HC.out.mono ?_
    rintro e w' ⟨rfl, hb⟩
    go_wp2_with fail
    go_ret
    exact ⟨rfl, hb⟩
def badS (x : ByteArray) : Bool := !isName x

set_option maxRecDepth 100000 in
set_option maxHeartbeats 2000000 in
theorem str_idx (l : List ByteArray) (v : Value) (w : World) (hl : Sl w v (tcells l) l.length 1) (hsz : ∀ x ∈ l, x.size ≤ 9223372036854775807) :
    Calls Tryz.prog 99 #[v, .func (.func 76) #[] #[]] w (IdxK (l.any badS) w) := by
  obtain ⟨a, cap, rfl, -⟩ := id hl
  have hm := hl.le
  go_enter Tryz.func99, Tryz.ntmps99
  go_wp2_with fail
  go_loopw [8] (fun i wr => ∃ k : Nat, k ≤ l.length ∧ i = .int .i64 (k : Int) ∧ (l.take k).any badS = false ∧ Below w.heap.size w wr) (fun i _ => l.length - (intOf i).toNat)
  case atStart => exact ⟨0, Nat.zero_le _, rfl, by simp, Below.refl _ _⟩
  case round =>
    obtain ⟨k, hk, rfl, hnot, hbel⟩ := hrel
    by_cases hlt : k < l.length
    · have hA := hl.ob hbel (Nat.le_refl _)
      obtain ⟨b, off, rfl, hb, hc, hcell⟩ := hA.at1 hlt
      rw [show (tcells l)[k] = .string l[k] by simp [tcells]] at hcell
      have hnm := hsz _ (List.getElem_mem hlt)
      have p1 : (0 : Int) ≤ (k : Int) := by omega
      have p2 : (k : Int) < (l.length : Int) := by omega
      have hs : (l.take (k + 1)).any badS = badS l[k] := by
        rw [List.take_succ_eq_append_getElem hlt, List.any_append, hnot]; simp
      have hin : badS l[k] = true → l.any badS = true := fun h => by rw [List.any_eq_true]; exact ⟨l[k], List.getElem_mem _, h⟩
      generalize l[k] = x at *
      have HC := hidd (spl_cl x wr hnm)
      cases hx : badS x
      · have hx' : (!isName x) = false := hx
        rw [hx'] at HC
        rw [hx] at hs
        have HS := hidd hs
        clear hs hin hx hx' hnot hA hl
        go_wp2_with fail
        refine HC.out.mono ?_
        rintro e w5 ⟨rfl, hb5⟩
        have hB5 := hbel.trans (hb5.mono hbel.size)
        clear hcell hb5
        go_wp2_with fail
        go_roundw
        case rel => exact ⟨k + 1, by omega, by go_num, HS.out, hB5⟩
        case measure => simp [intOf]; omega
      · have hx' : (!isName x) = true := hx
        rw [hx'] at HC
        have HI := hidd (hin hx)
        clear hs hin hx hx' hnot hA hl
        go_wp2_with fail
        refine HC.out.mono ?_
        rintro e w5 ⟨rfl, hb5⟩
        have hB5 := hbel.trans (hb5.mono hbel.size)
        clear hcell hb5
        go_wp2_with fail
        go_ret
        exact ⟨⟨_, rfl, by simp [HI.out]⟩, hB5⟩
    · rw [List.take_of_length_le (by omega)] at hnot
      have HI := hidd hnot
      clear hnot hl
      go_wp2_with fail
      go_ret
      exact ⟨⟨-1, rfl, by simp [HI.out]⟩, hbel⟩

theorem str_cf (l : List ByteArray) (v : Value) (w : World) (hl : Sl w v (tcells l) l.length 1) (hsz : ∀ x ∈ l, x.size ≤ 9223372036854775807) (q : Bool) (hq : l.any badS = q) :
    Calls Tryz.prog 75 #[v, .func (.func 76) #[] #[]] w fun e w' => e = .returned (.bool q) ∧ Below w.heap.size w w' := by
  have HC := hidd (str_idx l v w hl hsz)
  rw [hq] at HC
  clear hq hl hsz
  cases q
  · go_enter Tryz.func75, Tryz.ntmps75
    go_wp2_with fail
    refine HC.out.mono ?_
    rintro e w' ⟨⟨k, rfl, hk⟩, hb⟩
    have hk0 : ¬ 0 ≤ k := fun h0 => by have := hk.1 h0; cases this
    clear hk
    go_wp2_with fail
    go_ret
    exact ⟨ret_bool (by simp; omega), hb⟩
  · go_enter Tryz.func75, Tryz.ntmps75
    go_wp2_with fail
    refine HC.out.mono ?_
    rintro e w' ⟨⟨k, rfl, hk⟩, hb⟩
    have hk0 : 0 ≤ k := hk.2 rfl
    clear hk
    go_wp2_with fail
    go_ret
    exact ⟨ret_bool (by simp), hb⟩

/-- What path.Split gives. -/
def SplP (E : Nat → Addr) (s : ByteArray) (w : World) (e : Ending) (w' : World) : Prop :=
  Below w.heap.size w w' ∧ ((∃ l v, splitOf s = some l ∧ e = .returned (.tuple #[v, .nilIface]) ∧ Sl w' v (tcells l) l.length 1) ∨ (splitOf s = none ∧ e = .returned (.tuple #[.slice none 0 0, evc E 5])))

set_option maxRecDepth 100000 in
set_option maxHeartbeats 4000000 in
theorem split_any (E : Nat → Addr) (B : Nat) (s : ByteArray) (w : World) (hE : Env trGs B w E) (hM : Ml w) (hs : s.size < 4294967281) :
    Calls Tryz.prog 44 #[.string s] w (SplP E s w) := by
  by_cases h0 : s.data.toList = [47]
  · have q0 : (s.toList == [47]) = true := by rw [Lib.toList_data, h0]; rfl
    have HF := hidd (splitOf_stroke h0)
    clear h0
    go_enter Tryz.func44, Tryz.ntmps44
    go_wp2_with fail
    go_ret2
    exact ⟨Below.refl _ _, .inl ⟨[], _, HF.out, rfl, Sl.nil _ _⟩⟩
  have q0 : (s.toList == [47]) = false := by rw [Lib.toList_data]; simpa using h0
  obtain ⟨a, r, hp⟩ : ∃ a r, pieces s = a :: r := by
    cases hp : pieces s with
    | nil => exact absurd hp (pieces_ne s)
    | cons a r => exact ⟨a, r, rfl⟩
  have hso := splitOf_pieces h0 hp
  have HSP := hidd (ssplit_any s w hM hs hp)
  have hsz : ∀ x ∈ r, x.size ≤ 9223372036854775807 := fun x hx => by
    have := pieces_size (s := s) (p := x) (by rw [hp]; exact List.mem_cons_of_mem _ hx)
    omega
  have hB1 : Below w.heap.size w (w.alloc (.cells (tcells (a :: r)).toArray 9)) := (Below.refl _ _).alloc (Nat.le_refl _) _
  have hbk := Blk.new w (tcells (a :: r)) 9
  have x0 := hbk.cell (i := 0) (v := .string a) rfl
  have hcE := (hE.ob hB1).cell 5 (by decide)
  unfold erv at hcE
  have hrl : r.length ≤ 4294967281 := by
    have h1 := pieces_len s
    have h2 := Lib.countB_le ⟨#[47]⟩ (by decide) s.size s (Nat.le_refl _)
    rw [hp] at h1
    simp only [List.length_cons] at h1
    omega
  have hslr : Sl (w.alloc (.cells (tcells (a :: r)).toArray 9)) (.slice (some ⟨w.heap.size, 1, none⟩) r.length r.length) (tcells r) r.length 1 :=
    ⟨_, _, rfl, by rw [tcells_len, Nat.mul_one], Nat.le_refl _, by unfold maxLen; omega, .inr ⟨w.heap.size, 1, rfl, hbk.lt, fun j hj => hbk.cell (by
      rw [tcells, List.map_cons, Nat.add_comm, List.getElem?_cons_succ]
      exact List.getElem?_eq_getElem hj)⟩⟩
  have HSL := hidd hslr
  have HSZ := hidd hsz
  have HE5 := hidd (hE.ob hB1)
  have HSO := hidd hso
  clear hsz hslr hE hM hp h0 hso hs hbk
  have hzr : tcells (a :: r) = .string a :: tcells r := rfl
  obtain ⟨cs, hcs⟩ : ∃ cs, (tcells (a :: r)).toArray = cs := ⟨_, rfl⟩
  rw [hcs] at HSP HSL HE5 hB1 x0 hcE
  clear hcs hzr
  by_cases ha : a.data.toList = []
  · have z2 : a.toList = [] := by rw [Lib.toList_data]; exact ha
    by_cases h1 : 1 ≤ r.length
    · by_cases h8 : r.length ≤ 8
      · cases hall : r.all isName with
        | true =>
          have HF : Hid (splitOf s = some r) := hidd (by rw [HSO.out, if_pos ⟨ha, h1, h8, hall⟩])
          have HCF := hidd (fun W h => str_cf r (.slice (some ⟨w.heap.size, 1, none⟩) r.length r.length) W h HSZ.out false (by
            rw [List.any_eq_false]
            intro x hx
            rw [List.all_eq_true] at hall
            simp [badS, hall x hx]))
          obtain ⟨n, hn⟩ : ∃ n, r.length = n := ⟨_, rfl⟩
          have HN := hidd hn
          rw [hn] at HSP HSL HCF h1 h8 hrl
          have e1 : decide (((n : Int) + 1) < 2) = false := decide_eq_false (by omega)
          have e2 : decide ((8 : Int) < (n : Int)) = false := decide_eq_false (by omega)
          have e3 : (n : Int) + 1 - 1 = n := by omega
          have p1 : (1 : Int) ≤ (n : Int) + 1 := by omega
          clear hn hall ha HSO HSZ
          go_enter Tryz.func44, Tryz.ntmps44
          go_wp2_with fail
          refine HSP.out.mono ?_
          rintro e w1 ⟨rfl, rfl⟩
          go_wp2_with fail
          refine (HCF.out _ HSL.out).mono ?_
          rintro e w2 ⟨rfl, hb2⟩
          go_wp2_with fail
          go_ret2
          exact ⟨hB1.trans (hb2.mono hB1.size), .inl ⟨r, _, HF.out, rfl, by have := HSL.out.ob hb2 (Nat.le_refl _); rw [HN.out]; exact this⟩⟩
        | false =>
          have HF : Hid (splitOf s = none) := hidd (by rw [HSO.out, if_neg (by rw [hall]; simp)])
          have HCF := hidd (fun W h => str_cf r (.slice (some ⟨w.heap.size, 1, none⟩) r.length r.length) W h HSZ.out true (by
            rw [List.any_eq_true]
            rw [List.all_eq_false] at hall
            obtain ⟨x, hx, hn⟩ := hall
            exact ⟨x, hx, by simpa [badS] using hn⟩))
          obtain ⟨n, hn⟩ : ∃ n, r.length = n := ⟨_, rfl⟩
          rw [hn] at HSP HSL HCF h1 h8 hrl
          have e1 : decide (((n : Int) + 1) < 2) = false := decide_eq_false (by omega)
          have e2 : decide ((8 : Int) < (n : Int)) = false := decide_eq_false (by omega)
          have e3 : (n : Int) + 1 - 1 = n := by omega
          have p1 : (1 : Int) ≤ (n : Int) + 1 := by omega
          clear hn hall ha HSO HSZ
          go_enter Tryz.func44, Tryz.ntmps44
          go_wp2_with fail
          refine HSP.out.mono ?_
          rintro e w1 ⟨rfl, rfl⟩
          go_wp2_with fail
          refine (HCF.out _ HSL.out).mono ?_
          rintro e w2 ⟨rfl, hb2⟩
          have hcE2 := (HE5.out.ob hb2).cell 5 (by decide)
          unfold erv at hcE2
          have hB2 := hB1.trans (hb2.mono hB1.size)
          clear hb2
          go_wp2_with fail
          go_quiet (fail)
          go_wp2_with fail
          go_ret2
          exact ⟨hB2.trans ((Below.drewN _ _ _).mono hB2.size), .inr ⟨HF.out, rfl⟩⟩
      · have HF : Hid (splitOf s = none) := hidd (by rw [HSO.out, if_neg (fun h => h8 h.2.2.1)])
        obtain ⟨n, hn⟩ : ∃ n, r.length = n := ⟨_, rfl⟩
        rw [hn] at HSP HSL h1 h8 hrl
        have e1 : decide (((n : Int) + 1) < 2) = false := decide_eq_false (by omega)
        have e2 : decide ((8 : Int) < (n : Int)) = true := decide_eq_true (by omega)
        have e3 : (n : Int) + 1 - 1 = n := by omega
        have p1 : (1 : Int) ≤ (n : Int) + 1 := by omega
        clear hn ha HSO HSZ
        go_enter Tryz.func44, Tryz.ntmps44
        go_wp2_with fail
        refine HSP.out.mono ?_
        rintro e w1 ⟨rfl, rfl⟩
        go_wp2_with fail
        go_quiet (fail)
        go_wp2_with fail
        go_ret2
        exact ⟨hB1.trans ((Below.drewN _ _ _).mono hB1.size), .inr ⟨HF.out, rfl⟩⟩
    · have HF : Hid (splitOf s = none) := hidd (by rw [HSO.out, if_neg (fun h => h1 h.2.1)])
      obtain ⟨n, hn⟩ : ∃ n, r.length = n := ⟨_, rfl⟩
      rw [hn] at HSP HSL h1 hrl
      have e1 : decide (((n : Int) + 1) < 2) = true := decide_eq_true (by omega)
      have p1 : (1 : Int) ≤ (n : Int) + 1 := by omega
      clear hn ha HSO HSZ
      go_enter Tryz.func44, Tryz.ntmps44
      go_wp2_with fail
      refine HSP.out.mono ?_
      rintro e w1 ⟨rfl, rfl⟩
      go_wp2_with fail
      go_quiet (fail)
      go_wp2_with fail
      go_ret2
      exact ⟨hB1.trans ((Below.drewN _ _ _).mono hB1.size), .inr ⟨HF.out, rfl⟩⟩
  · have z2 : (a.toList == []) = false := by rw [Lib.toList_data]; simpa using ha
    have HF : Hid (splitOf s = none) := hidd (by rw [HSO.out, if_neg (fun h => ha h.1)])
    obtain ⟨n, hn⟩ : ∃ n, r.length = n := ⟨_, rfl⟩
    rw [hn] at HSP HSL hrl
    have p1 : (1 : Int) ≤ (n : Int) + 1 := by omega
    clear hn ha HSO HSZ
    go_enter Tryz.func44, Tryz.ntmps44
    go_wp2_with fail
    refine HSP.out.mono ?_
    rintro e w1 ⟨rfl, rfl⟩
    go_wp2_with fail
    go_quiet (fail)
    go_wp2_with fail
    go_ret2
    exact ⟨hB1.trans ((Below.drewN _ _ _).mono hB1.size), .inr ⟨HF.out, rfl⟩⟩
end Go.Proofs.YtoemahhpheobkaaGreatDoor

namespace Go.Proofs.YtoemahhpheobkaaGreatDoor
open Go.RowKit Go.Shelf

theorem find_some {α : Type} {ks : List (ByteArray × α)} {n : ByteArray} {i : Nat} (h : FndK ks n i true) : ∃ hi : i < ks.length, ks[i].1 = n ∧ ks.find? (fun k => decide (k.1 = n)) = some ks[i] := by
  obtain ⟨h1, h2, h3, h4⟩ := h
  obtain ⟨hi, he⟩ := h4.1 rfl
  refine ⟨hi, he, ?_⟩
  rw [List.find?_eq_some_iff_getElem]
  refine ⟨by simpa using he, i, hi, rfl, fun j hj => ?_⟩
  have := h2 j (by omega) hj
  simp only [Bool.not_eq_true', decide_eq_false_iff_not]
  intro e
  rw [e] at this
  have := (cmpB_eq (a := n) (b := n)).2 rfl
  omega
theorem find_none {α : Type} {ks : List (ByteArray × α)} {n : ByteArray} {i : Nat} (hr : rising (ks.map (·.1)) = true) (h : FndK ks n i false) : ks.find? (fun k => decide (k.1 = n)) = none := by
  obtain ⟨h1, h2, h3, h4⟩ := h
  have hself := (cmpB_eq (a := n) (b := n)).2 rfl
  rw [List.find?_eq_none]
  intro x hx hd
  obtain ⟨j, hj, rfl⟩ := List.getElem_of_mem hx
  have e : ks[j].1 = n := of_decide_eq_true hd
  by_cases hji : j < i
  · have := h2 j hj hji; rw [e] at this; omega
  · by_cases he : j = i
    · subst he
      have := h4.2 ⟨hj, e⟩
      cases this
    · have h5 := rising_lt hr i j (by omega) (by simpa using hj)
      simp only [List.getElem_map] at h5
      rw [e] at h5
      have := h3 i (by omega) (Nat.le_refl _)
      omega
theorem own_rising {α : Type} {t : Tr α} (h : ownE t = 0) : rising (t.kids.map (·.1)) = true := by
  unfold ownE at h
  repeat (split at h; omega)
  rename_i h6
  cases hq : rising (t.kids.map (·.1)) with
  | true => rfl
  | false => exact absurd hq h6
theorem right_rising {α : Type} {t : Tr α} (h : treeE t = 0) : rising (t.kids.map (·.1)) = true := own_rising (treeE_own h).1
theorem right_sz {α : Type} {t : Tr α} (h : treeE t = 0) : t.sz ≤ 200 := by
  have h1 := (scan_zero h).2 (by rw [pre_cons]; simp)
  rw [pre_len] at h1
  omega
theorem right_kids {α : Type} {t : Tr α} (h : treeE t = 0) : t.kids.length ≤ 200 := by
  have h1 := right_sz h
  have h2 := Tr.sz_kids t
  have h3 : t.kids.length ≤ Tr.szs t.kids := by
    rw [← pres_len ⟨#[]⟩ 0]
    generalize t.kids = l
    clear h h1 h2
    induction l with
    | nil => simp
    | cons x r ih => obtain ⟨n, t⟩ := x; rw [pres, List.length_append, pre_cons]; simp only [List.length_cons]; omega
  omega
theorem atT_right {α : Type} : ∀ {l : List ByteArray} {t x : Tr α}, treeE t = 0 → atT t l = some x → treeE x = 0
  | [], t, x, h, e => by rw [atT] at e; rw [← Option.some.inj e]; exact h
  | n :: r, t, x, h, e => by
    rw [atT] at e
    cases hf : t.kids.find? (fun k => decide (k.1 = n)) with
    | none => rw [hf] at e; cases e
    | some k =>
      rw [hf] at e
      exact atT_right (kid_right h (List.mem_of_find?_eq_some hf)) e
theorem atT_ok {w : World} : ∀ {l : List ByteArray} {t x : Lt}, t.Ok w → atT t l = some x → x.Ok w
  | [], t, x, h, e => by rw [atT] at e; rw [← Option.some.inj e]; exact h
  | n :: r, t, x, h, e => by
    rw [atT] at e
    cases hf : t.kids.find? (fun k => decide (k.1 = n)) with
    | none => rw [hf] at e; cases e
    | some k =>
      rw [hf] at e
      exact atT_ok (h.kid (List.mem_of_find?_eq_some hf)) e

/-- A node's cells set in a block. -/
theorem Blk.four {w : World} {p : Nat} {c0 c1 c2 c3 x0 x1 x2 x3 : Value} {T : TypeId} (h : Blk w p [c0, c1, c2, c3] T) :
    Blk ((((w.setCell ⟨p, 0, none⟩ x0).setCell ⟨p, 1, none⟩ x1).setCell ⟨p, 2, none⟩ x2).setCell ⟨p, 3, none⟩ x3) p [x0, x1, x2, x3] T :=
  (((h.set 0 x0).set 1 x1).set 2 x2).set 3 x3
theorem Fr.four {S : Nat → Prop} {a w : World} (h : Fr S a w) {p : Nat} (hp : S p ∨ a.heap.size ≤ p) (x0 x1 x2 x3 : Value) :
    Fr S a ((((w.setCell ⟨p, 0, none⟩ x0).setCell ⟨p, 1, none⟩ x1).setCell ⟨p, 2, none⟩ x2).setCell ⟨p, 3, none⟩ x3) :=
  (((h.setCell (p := ⟨p, 0, none⟩) hp x0).setCell (p := ⟨p, 1, none⟩) hp x1).setCell (p := ⟨p, 2, none⟩) hp x2).setCell (p := ⟨p, 3, none⟩) hp x3

/-- No node. -/
def nodeZ : Value := .agg #[.string ⟨#[]⟩, .string ⟨#[]⟩, .bool false, .slice none 0 0]
/-- What path.at gives. -/
def AtP (r : Option Lt) (w : World) (e : Ending) (w' : World) : Prop :=
  Below w.heap.size w w' ∧ ((∃ x : Lt, r = some x ∧ e = .returned (.tuple #[nval x, .bool true])) ∨ (r = none ∧ e = .returned (.tuple #[nodeZ, .bool false])))

set_option maxRecDepth 100000 in
set_option maxHeartbeats 4000000 in
theorem at_any (t : Lt) (v : Value) (l : List ByteArray) (w : World) (ht : t.Ok w) (h0 : treeE t = 0) (hl : Sl w v (tcells l) l.length 1) :
    Calls Tryz.prog 63 #[nval t, v] w (AtP (atT t l) w) := by
  obtain ⟨la, lc, rfl, -⟩ := id hl
  have hle := hl.le
  obtain ⟨a, cap, hv⟩ := ht.shape
  have hB0 : Below w.heap.size w ((w.alloc (.cells #[.string t.kind, .string t.data, .bool t.exec, .slice a t.kids.length cap] 32)).alloc (.cells #[.string ⟨#[]⟩, .string ⟨#[]⟩, .bool false, .slice none 0 0] 32)) := ((Below.refl _ _).alloc (Nat.le_refl _) _).alloc (by simp) _
  have hq1 := (Blk.new w [.string t.kind, .string t.data, .bool t.exec, .slice a t.kids.length cap] 32).alloc (.cells #[.string ⟨#[]⟩, .string ⟨#[]⟩, .bool false, .slice none 0 0] 32)
  have hq2 := Blk.new (w.alloc (.cells #[.string t.kind, .string t.data, .bool t.exec, .slice a t.kids.length cap] 32)) [.string ⟨#[]⟩, .string ⟨#[]⟩, .bool false, .slice none 0 0] 32
  rw [show (w.alloc (.cells #[.string t.kind, .string t.data, .bool t.exec, .slice a t.kids.length cap] 32)).heap.size = w.heap.size + 1 by simp] at hq2
  have hn : ncells t = [.string t.kind, .string t.data, .bool t.exec, .slice a t.kids.length cap] := by unfold ncells; rw [hv]
  obtain ⟨R, hR⟩ : ∃ R, atT t l = R := ⟨_, rfl⟩
  rw [hR]
  have HS : Hid (∃ c : Lt, treeE c = 0 ∧ atT c (l.drop 0) = R ∧ c.Ok w ∧ Blk ((w.alloc (.cells #[.string t.kind, .string t.data, .bool t.exec, .slice a t.kids.length cap] 32)).alloc (.cells #[.string ⟨#[]⟩, .string ⟨#[]⟩, .bool false, .slice none 0 0] 32)) w.heap.size (ncells c) 32) := hidd ⟨t, h0, hR, ht, by rw [hn]; exact hq1⟩
  unfold nval
  rw [hv]
  clear hq1 hn ht h0 hR hv
  go_enter Tryz.func63, Tryz.ntmps63
  go_wp2_with fail
  go_loopw [7, 8, 9, 12] (fun _ _ _ s wr => ∃ (i : Nat), i ≤ l.length ∧ s = .int .i64 (i : Int) ∧ Hid (∃ c : Lt, treeE c = 0 ∧ atT c (l.drop i) = R ∧ c.Ok w ∧ Blk wr w.heap.size (ncells c) 32) ∧
      Blk wr (w.heap.size + 1) [.string ⟨#[]⟩, .string ⟨#[]⟩, .bool false, .slice none 0 0] 32 ∧ Below w.heap.size w wr) (fun _ _ _ s _ => l.length - (intOf s).toNat)
  case atStart => exact ⟨0, Nat.zero_le _, rfl, HS, hq2, hB0⟩
  case round =>
    obtain ⟨i, hi, rfl, HC, hb2, hbel⟩ := hrel
    obtain ⟨c, hc0, hcR, hcw, hb1⟩ := HC.out
    clear HS hq2 hB0 HC
    have hcr := hcw.ob hbel
    obtain ⟨ca, cc, hcv⟩ := hcw.shape
    have hk200 := right_kids hc0
    have hris := right_rising hc0
    obtain ⟨kc, dc, ec, vc, ksc⟩ := c
    simp only [Tr.v, Tr.kids] at hcv hk200 hris
    subst hcv
    unfold ncells at hb1
    simp only [Tr.kind, Tr.data, Tr.exec, Tr.v] at hb1
    have x0 := hb1.cell (i := 0) rfl
    have x1 := hb1.cell (i := 1) rfl
    have x2 := hb1.cell (i := 2) rfl
    have x3 := hb1.cell (i := 3) rfl
    by_cases hlt : i < l.length
    · have hA := hl.ob hbel (Nat.le_refl _)
      obtain ⟨b, off, rfl, hb, hc, hcell⟩ := hA.at1 hlt
      rw [show (tcells l)[i] = .string l[i] by simp [tcells]] at hcell
      have hdr : l.drop i = l[i] :: l.drop (i + 1) := by rw [List.getElem_cons_drop]
      have p1 : (0 : Int) ≤ (i : Int) := by omega
      have p2 : (i : Int) < (l.length : Int) := by omega
      rw [hdr] at hcR
      generalize l[i] = n at *
      rw [atT] at hcR
      simp only [Tr.kids] at hcR
      have HK := hidd (kid_find (.mk kc dc ec (.slice ca ksc.length cc) ksc) n wr hcr (by simp only [Tr.kids]; omega) hris)
      unfold nval at HK
      simp only [Tr.kind, Tr.data, Tr.exec, Tr.v, Tr.kids] at HK
      have HCR := hidd hcR
      have HRI := hidd hris
      have HC0 := hidd hc0
      have HCW := hidd hcw
      clear hdr hcR hA hris hc0 hcw
      go_wp2_with fail
      refine HK.out.mono ?_
      rintro e w2 ⟨k, f, rfl, hf, hbk⟩
      have hB2 := hbel.trans (hbk.mono hbel.size)
      have hb12 := hb1.below hbk hb1.lt
      have hb22 := hb2.below hbk hb2.lt
      have hc2 := hcr.ob hbk
      clear x0 x1 x2 x3 hb1 hb2 hbel hbk hcr hcell
      cases f
      · have HF := hidd (find_none HRI.out hf)
        have HN : Hid (R = none) := hidd (by have := HCR.out; rw [HF.out] at this; exact this.symm)
        have f0 := hb22.frozen 0
        have f1 := hb22.frozen 1
        have f2 := hb22.frozen 2
        have f3 := hb22.frozen 3
        have y0 := hb22.cell (i := 0) rfl
        have y1 := hb22.cell (i := 1) rfl
        have y2 := hb22.cell (i := 2) rfl
        have y3 := hb22.cell (i := 3) rfl
        have s4 := hb22.four (x0 := .string ⟨#[]⟩) (x1 := .string ⟨#[]⟩) (x2 := .bool false) (x3 := .slice none 0 0)
        have r0 := s4.cell (i := 0) rfl
        have r1 := s4.cell (i := 1) rfl
        have r2 := s4.cell (i := 2) rfl
        have r3 := s4.cell (i := 3) rfl
        have hBB := hB2.trans (((Fr.refl (fun b => b = w.heap.size + 1) w2).four (p := w.heap.size + 1) (.inl rfl) (.string ⟨#[]⟩) (.string ⟨#[]⟩) (.bool false) (.slice none 0 0)).below hB2.size (fun b e => by omega))
        clear hf HCR HF hB2 s4 hb22
        go_wp2_with fail
        refine bodyPost_ret (v := .tuple #[.agg #[.string ⟨#[]⟩, .string ⟨#[]⟩, .bool false, .slice none 0 0], .bool false]) ?_ rfl ?_
        · rw [results_cell_tmp rfl]
          go_simp
        · exact ⟨hBB, .inr ⟨HN.out, rfl⟩⟩
      · obtain ⟨hk, hkn, hfs⟩ := find_some hf
        have HR2 : Hid (atT ksc[k].2 (l.drop (i + 1)) = R) := hidd (by have := HCR.out; rw [hfs] at this; exact this)
        have HK0 := hidd (kid_right HC0.out (x := ksc[k]) (List.getElem_mem hk))
        have HKO := hidd (HCW.out.kid (x := ksc[k]) (List.getElem_mem hk))
        obtain ⟨b1, o1, hca, hb1l, a0, a1, a2, a3, a4⟩ := hc2.at5 rfl hk
        subst hca
        simp only [Tr.kids] at a0 a1 a2 a3 a4
        have p3 : (0 : Int) ≤ (k : Int) := by omega
        have p4 : (k : Int) < (ksc.length : Int) := by omega
        obtain ⟨sa, sc, hvx⟩ := HKO.out.shape
        clear hf hfs hkn hc2 HCR
        generalize ksc[k] = x at *
        obtain ⟨nx, ⟨kx, dx, ex, vx, ksx⟩⟩ := x
        simp only [Tr.kind, Tr.data, Tr.exec, Tr.v, Tr.kids] at a1 a2 a3 a4 hvx
        subst hvx
        have x3 := hb12.cell (i := 3) rfl
        have x0 := hb12.cell (i := 0) rfl
        have x1 := hb12.cell (i := 1) rfl
        have x2 := hb12.cell (i := 2) rfl
        have f0 := hb12.frozen 0
        have f1 := hb12.frozen 1
        have f2 := hb12.frozen 2
        have f3 := hb12.frozen 3
        have s4 := hb12.four (x0 := .string kx) (x1 := .string dx) (x2 := .bool ex) (x3 := .slice sa ksx.length sc)
        have hFR := (Fr.refl (fun b => b = w.heap.size) w2).four (p := w.heap.size) (.inl rfl) (.string kx) (.string dx) (.bool ex) (.slice sa ksx.length sc)
        have hBB := hB2.trans (hFR.below hB2.size (fun b e => by omega))
        have hbb2 := hb22.fr hFR (by omega)
        have HN := hidd (⟨_, HK0.out, HR2.out, HKO.out, s4⟩ : ∃ c : Lt, treeE c = 0 ∧ atT c (l.drop (i + 1)) = R ∧ c.Ok w ∧ Blk _ w.heap.size (ncells c) 32)
        clear hB2 s4 hb22 hb12 hFR HK0 HR2 HKO
        go_wp2_with fail
        go_roundw
        case rel => exact ⟨i + 1, hlt, by go_num, HN, hbb2, hBB⟩
        case measure => simp [intOf]; omega
    · have hil : i = l.length := by omega
      have HN : Hid (R = some (.mk kc dc ec (.slice ca ksc.length cc) ksc)) := hidd (by rw [hil, List.drop_of_length_le (Nat.le_refl _), atT] at hcR; exact hcR.symm)
      have f0 := hb2.frozen 0
      have f1 := hb2.frozen 1
      have f2 := hb2.frozen 2
      have f3 := hb2.frozen 3
      have y0 := hb2.cell (i := 0) rfl
      have y1 := hb2.cell (i := 1) rfl
      have y2 := hb2.cell (i := 2) rfl
      have y3 := hb2.cell (i := 3) rfl
      have s4 := hb2.four (x0 := .string kc) (x1 := .string dc) (x2 := .bool ec) (x3 := .slice ca ksc.length cc)
      have r0 := s4.cell (i := 0) rfl
      have r1 := s4.cell (i := 1) rfl
      have r2 := s4.cell (i := 2) rfl
      have r3 := s4.cell (i := 3) rfl
      have hBB := hbel.trans (((Fr.refl (fun b => b = w.heap.size + 1) wr).four (p := w.heap.size + 1) (.inl rfl) (.string kc) (.string dc) (.bool ec) (.slice ca ksc.length cc)).below hbel.size (fun b e => by omega))
      clear hcR hcr hcw hc0 hris hbel s4 hb1 hb2 hil
      go_wp2_with fail
      refine bodyPost_ret (v := .tuple #[.agg #[.string kc, .string dc, .bool ec, .slice ca ksc.length cc], .bool true]) ?_ rfl ?_
      · rw [results_cell_tmp rfl]
        go_simp
      · exact ⟨hBB, .inl ⟨_, HN.out, rfl⟩⟩
end Go.Proofs.YtoemahhpheobkaaGreatDoor

namespace Go.Proofs.YtoemahhpheobkaaGreatDoor
open Go.RowKit Go.Shelf

set_option maxRecDepth 100000 in
theorem names_bad (E : Nat → Addr) (B : Nat) (t : Lt) (s : ByteArray) (w : World) (ht : t.Ok w) (hE : Env trGs B w E) (h0 : treeE t ≠ 0) :
    Calls Tryz.prog 62 #[nval t, .string s] w fun e w' => e = .returned (.tuple #[.slice none 0 0, evc E (treeE t)]) ∧ Below w.heap.size w w' := by
  obtain ⟨a, cap, hv⟩ := ht.shape
  have hB0 : Below w.heap.size w (w.alloc (.cells #[.string t.kind, .string t.data, .bool t.exec, .slice a t.kids.length cap] 32)) := (Below.refl _ _).alloc (Nat.le_refl _) _
  have hC := check_tr E B t _ (ht.ob hB0) (hE.ob hB0)
  rw [evc_ne h0] at hC ⊢
  unfold nval at hC ⊢
  rw [hv] at hC ⊢
  have HC := hidd hC
  clear hC hv ht hE h0
  go_enter Tryz.func62, Tryz.ntmps62
  go_wp2_with fail
  refine HC.out.mono ?_
  rintro e w2 ⟨rfl, hb2⟩
  go_wp2_with fail
  go_ret2
  exact ⟨rfl, hB0.trans (hb2.mono hB0.size)⟩

set_option maxRecDepth 100000 in
theorem names_ok (E : Nat → Addr) (B : Nat) (t : Lt) (s : ByteArray) (w : World) (ht : t.Ok w) (hE : Env trGs B w E) (hM : Ml w) (hs : s.size < 4294967281) (h0 : treeE t = 0) :
    Calls Tryz.prog 62 #[nval t, .string s] w (SplP E s w) := by
  obtain ⟨a, cap, hv⟩ := ht.shape
  have hB0 : Below w.heap.size w (w.alloc (.cells #[.string t.kind, .string t.data, .bool t.exec, .slice a t.kids.length cap] 32)) := (Below.refl _ _).alloc (Nat.le_refl _) _
  have hC := check_tr E B t _ (ht.ob hB0) (hE.ob hB0)
  have HE0 := hidd (hE.ob hB0)
  have HM0 := hidd (hM.ob hB0)
  rw [h0, evc_zero] at hC
  unfold nval at hC ⊢
  rw [hv] at hC ⊢
  have HC := hidd hC
  clear hC hv ht hE h0 hM
  go_enter Tryz.func62, Tryz.ntmps62
  go_wp2_with fail
  refine HC.out.mono ?_
  rintro e w2 ⟨rfl, hb2⟩
  have hB2 := hB0.trans (hb2.mono hB0.size)
  have HSP := hidd (split_any E B s w2 (HE0.out.ob hb2) (HM0.out.ob hb2) hs)
  clear hB0 hb2 HC
  go_wp2_with fail
  refine HSP.out.mono ?_
  rintro e w3 ⟨hb3, hr⟩
  have hB3 := hB2.trans (hb3.mono hB2.size)
  rcases hr with ⟨l, v, hsp, rfl, hsl⟩ | ⟨hsp, rfl⟩
  · have HP := hidd hsp
    have HL := hidd hsl
    obtain ⟨la, lc, rfl, -⟩ := id hsl
    clear hsp hsl hb3 hB2 HSP
    go_wp2_with fail
    go_ret2
    exact ⟨hB3, .inl ⟨l, _, HP.out, rfl, HL.out⟩⟩
  · have HP := hidd hsp
    obtain ⟨ev, hev⟩ : ∃ ev, evc E 5 = ev := ⟨_, rfl⟩
    have HV := hidd hev
    rw [hev]
    clear hsp hb3 hB2 HSP hev
    go_wp2_with fail
    go_ret2
    exact ⟨hB3, .inr ⟨HP.out, by rw [HV.out]; rfl⟩⟩

/-- What is got by a path: an error's number, or a node. -/
def getOf {α : Type} (t : Tr α) (s : ByteArray) : Except Nat (Tr α) :=
  if treeE t = 0 then match splitOf s with
    | none => .error 5
    | some l => match atT t l with
      | none => .error 6
      | some x => .ok x
  else .error (treeE t)
theorem getOf_err {α : Type} {t : Tr α} {s : ByteArray} (h : treeE t ≠ 0) : getOf t s = .error (treeE t) := by unfold getOf; rw [if_neg h]
theorem getOf_split {α : Type} {t : Tr α} {s : ByteArray} (h : treeE t = 0) (hs : splitOf s = none) : getOf t s = .error 5 := by unfold getOf; rw [if_pos h, hs]
theorem getOf_none {α : Type} {t : Tr α} {s : ByteArray} {l : List ByteArray} (h : treeE t = 0) (hs : splitOf s = some l) (ha : atT t l = none) : getOf t s = .error 6 := by unfold getOf; rw [if_pos h, hs]; simp only [ha]
theorem getOf_ok {α : Type} {t x : Tr α} {s : ByteArray} {l : List ByteArray} (h : treeE t = 0) (hs : splitOf s = some l) (ha : atT t l = some x) : getOf t s = .ok x := by unfold getOf; rw [if_pos h, hs]; simp only [ha]
/-- What path.Get gives. -/
def GetP (E : Nat → Addr) (t : Lt) (s : ByteArray) (w : World) (e : Ending) (w' : World) : Prop :=
  Below w.heap.size w w' ∧ ((∃ c, getOf t s = .error c ∧ c ≠ 0 ∧ c ≤ 10 ∧ e = .returned (.tuple #[nodeZ, evc E c])) ∨
    (∃ x y : Lt, getOf t s = .ok x ∧ treeE x = 0 ∧ e = .returned (.tuple #[nval y, .nilIface]) ∧ y.bare = x.bare ∧ y.Ok w' ∧ y.In (fun b => w.heap.size ≤ b ∧ b < w'.heap.size)))

set_option maxRecDepth 100000 in
set_option maxHeartbeats 4000000 in
theorem get_any (E : Nat → Addr) (B : Nat) (t : Lt) (s : ByteArray) (w : World) (ht : t.Ok w) (hE : Env trGs B w E) (hM : Ml w) (hs : s.size < 4294967281) :
    Calls Tryz.prog 31 #[nval t, .string s] w (GetP E t s w) := by
  obtain ⟨a, cap, hv⟩ := ht.shape
  have hB0 : Below w.heap.size w ((w.alloc (.cells #[.string t.kind, .string t.data, .bool t.exec, .slice a t.kids.length cap] 32)).alloc (.cells #[.string ⟨#[]⟩, .string ⟨#[]⟩, .bool false, .slice none 0 0] 32)) := ((Below.refl _ _).alloc (Nat.le_refl _) _).alloc (by simp) _
  have hq1 := (Blk.new w [.string t.kind, .string t.data, .bool t.exec, .slice a t.kids.length cap] 32).alloc (.cells #[.string ⟨#[]⟩, .string ⟨#[]⟩, .bool false, .slice none 0 0] 32)
  have hq2 := Blk.new (w.alloc (.cells #[.string t.kind, .string t.data, .bool t.exec, .slice a t.kids.length cap] 32)) [.string ⟨#[]⟩, .string ⟨#[]⟩, .bool false, .slice none 0 0] 32
  rw [show (w.alloc (.cells #[.string t.kind, .string t.data, .bool t.exec, .slice a t.kids.length cap] 32)).heap.size = w.heap.size + 1 by simp] at hq2
  have HT := hidd (ht.ob hB0)
  have HE0 := hidd (hE.ob hB0)
  have hg6 : 1 < w.heap.size := World.block_lt_of_cell? w _ (hE.cell 1 (by decide))
  have hne : ¬ (1 = w.heap.size + 1) := by omega
  have hne2 : ¬ (w.heap.size + 1 = 1) := by omega
  by_cases h0 : treeE t = 0
  · have hN := names_ok E B t s _ (ht.ob hB0) (hE.ob hB0) (hM.ob hB0) hs h0
    have HA := hidd (fun W v l (h : t.Ok W) (hl : Sl W v (tcells l) l.length 1) => at_any t v l W h h0 hl)
    have HAO := hidd (fun W l x (h : t.Ok W) (e : atT t l = some x) => (⟨atT_right h0 e, atT_ok h e⟩ : treeE x = 0 ∧ x.Ok W))
    have HG := hidd h0
    unfold nval at hN HA ⊢
    rw [hv] at hN HA ⊢
    have HN := hidd hN
    clear hN ht hE hM h0 hv
    go_enter Tryz.func31, Tryz.ntmps31
    go_wp2_with fail
    refine HN.out.mono ?_
    rintro e w2 ⟨hb2, hr⟩
    have hB2 := hB0.trans (hb2.mono hB0.size)
    have hk1 := hq1.below hb2 hq1.lt
    have hk2 := hq2.below hb2 hq2.lt
    have HT2 := hidd (HT.out.ob hb2)
    have HE2 := hidd (HE0.out.ob hb2)
    clear hq1 hq2 HN HT hb2
    rcases hr with ⟨l, v, hsp, rfl, hsl⟩ | ⟨hsp, rfl⟩
    · obtain ⟨la, lc, rfl, -⟩ := id hsl
      have HP := hidd hsp
      have x0 := hk1.cell (i := 0) rfl
      have x1 := hk1.cell (i := 1) rfl
      have x2 := hk1.cell (i := 2) rfl
      have x3 := hk1.cell (i := 3) rfl
      clear hsp
      go_wp2_with fail
      refine (HA.out _ _ l HT2.out hsl).mono ?_
      rintro e w3 ⟨hb3, hr⟩
      have hB3 := hB2.trans (hb3.mono hB2.size)
      have hl2 := hk2.below hb3 hk2.lt
      have HT3 := hidd (HT2.out.ob hb3)
      have HE3 := hidd (HE2.out.ob hb3)
      clear hk1 hk2 x0 x1 x2 x3 hsl hB2 hB0 HA HE0 HT2 HE2
      rcases hr with ⟨x, hx, rfl⟩ | ⟨hx, rfl⟩
      · obtain ⟨hx0, hxo⟩ := HAO.out _ l x HT3.out hx
        have HG2 : Hid (getOf t s = .ok x) := hidd (getOf_ok HG.out HP.out hx)
        have hsz := right_sz hx0
        have HX0 := hidd hx0
        obtain ⟨xa, xc, hxv⟩ := hxo.shape
        obtain ⟨kx, dx, ex, vx, ksx⟩ := x
        simp only [Tr.v, Tr.kids] at hxv
        subst hxv
        have HCP := hidd (fun W (h : (Tr.mk kx dx ex (.slice xa ksx.length xc) ksx : Lt).Ok W) => copy_any 300 _ W (by omega) (Nat.le_refl _) h)
        unfold nval at HCP ⊢
        simp only [Tr.kind, Tr.data, Tr.exec, Tr.v] at HCP ⊢
        have hwl := hl2.lt
        have hq4 := Blk.new w3 [.string kx, .string dx, .bool ex, .slice xa ksx.length xc] 32
        have hBa : Below w3.heap.size w3 (w3.alloc (.cells #[.string kx, .string dx, .bool ex, .slice xa ksx.length xc] 32)) := (Below.refl _ _).alloc (Nat.le_refl _) _
        have HXO := hidd (hxo.ob hBa)
        have hl3 := hl2.alloc (.cells #[.string kx, .string dx, .bool ex, .slice xa ksx.length xc] 32)
        have hBB := hB3.trans (hBa.mono hB3.size)
        clear hx hx0 hxo hsz HAO HP HG hl2 hB3
        go_wp2_with fail
        refine (HCP.out _ HXO.out).mono ?_
        rintro e w4 ⟨ya, yc, ksy, rfl, hbr, hyo, hyi, hb4⟩
        simp only [Tr.kind, Tr.data, Tr.exec] at hbr hyo hyi ⊢
        have hl4 := hl3.below hb4 hl3.lt
        have hB5 := hBB.trans (hb4.mono hBB.size)
        have f0 := hl4.frozen 0
        have f1 := hl4.frozen 1
        have f2 := hl4.frozen 2
        have f3 := hl4.frozen 3
        have y0 := hl4.cell (i := 0) rfl
        have y1 := hl4.cell (i := 1) rfl
        have y2 := hl4.cell (i := 2) rfl
        have y3 := hl4.cell (i := 3) rfl
        have s4 := hl4.four (x0 := .string kx) (x1 := .string dx) (x2 := .bool ex) (x3 := .slice ya ksy.length yc)
        have r0 := s4.cell (i := 0) rfl
        have r1 := s4.cell (i := 1) rfl
        have r2 := s4.cell (i := 2) rfl
        have r3 := s4.cell (i := 3) rfl
        have hFR := (Fr.refl (fun b => b = w.heap.size + 1) w4).four (p := w.heap.size + 1) (.inl rfl) (.string kx) (.string dx) (.bool ex) (.slice ya ksy.length yc)
        have hBF := hB5.trans (hFR.below hB5.size (fun b e => by omega))
        have HOK := hidd (ok_fr hFR _ hyo (in_mono (fun b hb e => by simp at hb; omega) _ hyi))
        have HIN := hidd (in_mono (G := fun b => w.heap.size ≤ b ∧ b < ((((w4.setCell ⟨w.heap.size + 1, 0, none⟩ (.string kx)).setCell ⟨w.heap.size + 1, 1, none⟩ (.string dx)).setCell ⟨w.heap.size + 1, 2, none⟩ (.bool ex)).setCell ⟨w.heap.size + 1, 3, none⟩ (.slice ya ksy.length yc)).heap.size) (fun b (hb : (w3.alloc (.cells #[.string kx, .string dx, .bool ex, .slice xa ksx.length xc] 32)).heap.size ≤ b ∧ b < w4.heap.size) => ⟨by have := hBB.size; omega, by have := hFR.size; omega⟩) _ hyi)
        have HBR := hidd hbr
        clear hbr hyo hyi hl4 hl3 hb4 hB5 hBB s4 hFR
        go_wp2_with fail
        refine bodyPost_ret (v := .tuple #[.agg #[.string kx, .string dx, .bool ex, .slice ya ksy.length yc], .nilIface]) ?_ rfl ?_
        · rw [results_cell_tmp rfl]
          go_simp
        · exact ⟨hBF, .inr ⟨_, _, HG2.out, HX0.out, rfl, HBR.out, HOK.out, HIN.out⟩⟩
      · have HG2 : Hid (getOf t s = .error 6) := hidd (getOf_none HG.out HP.out hx)
        have hcE := HE3.out.cell 1 (by decide)
        unfold erv at hcE
        have HV : Hid (evc E 6 = .iface 249 (.pointer (some (E 1)))) := hidd rfl
        unfold nodeZ
        have hBa : Below w3.heap.size w3 (w3.alloc (.cells #[.string ⟨#[]⟩, .string ⟨#[]⟩, .bool false, .slice none 0 0] 32)) := (Below.refl _ _).alloc (Nat.le_refl _) _
        have hl3 := hl2.alloc (.cells #[.string ⟨#[]⟩, .string ⟨#[]⟩, .bool false, .slice none 0 0] 32)
        have hcE3 := (HE3.out.ob hBa).cell 1 (by decide)
        unfold erv at hcE3
        have hBB := hB3.trans (hBa.mono hB3.size)
        have f0 := hl3.frozen 0
        have f1 := hl3.frozen 1
        have f2 := hl3.frozen 2
        have f3 := hl3.frozen 3
        have y0 := hl3.cell (i := 0) rfl
        have y1 := hl3.cell (i := 1) rfl
        have y2 := hl3.cell (i := 2) rfl
        have y3 := hl3.cell (i := 3) rfl
        have s4 := hl3.four (x0 := .string ⟨#[]⟩) (x1 := .string ⟨#[]⟩) (x2 := .bool false) (x3 := .slice none 0 0)
        have r0 := s4.cell (i := 0) rfl
        have r1 := s4.cell (i := 1) rfl
        have r2 := s4.cell (i := 2) rfl
        have r3 := s4.cell (i := 3) rfl
        have hBF := hBB.trans (((Fr.refl (fun b => b = w.heap.size + 1) (w3.alloc (.cells #[.string ⟨#[]⟩, .string ⟨#[]⟩, .bool false, .slice none 0 0] 32))).four (p := w.heap.size + 1) (.inl rfl) (.string ⟨#[]⟩) (.string ⟨#[]⟩) (.bool false) (.slice none 0 0)).below hBB.size (fun b e => by omega))
        clear hx HAO HP HG hB3 hl2 hl3 s4 hBa hBB hcE
        go_wp2_with fail
        go_region
        all_goals
          go_wp2_with fail
          refine bodyPost_ret (v := .tuple #[.agg #[.string ⟨#[]⟩, .string ⟨#[]⟩, .bool false, .slice none 0 0], evc E 6]) ?_ rfl ?_
          · rw [results_cell_tmp rfl]
            rw [HV.out]
            go_simp
          · exact ⟨hBF.drew, .inl ⟨6, HG2.out, by decide, by decide, rfl⟩⟩
    · have HG2 : Hid (getOf t s = .error 5) := hidd (getOf_split HG.out hsp)
      obtain ⟨ev, hev⟩ : ∃ ev, erv E 5 = ev := ⟨_, rfl⟩
      have hev2 : evc E 5 = ev := hev
      rw [hev2]
      have HV := hidd hev2
      unfold erv at hev
      subst hev
      have f0 := hk2.frozen 0
      have f1 := hk2.frozen 1
      have f2 := hk2.frozen 2
      have f3 := hk2.frozen 3
      have y0 := hk2.cell (i := 0) rfl
      have y1 := hk2.cell (i := 1) rfl
      have y2 := hk2.cell (i := 2) rfl
      have y3 := hk2.cell (i := 3) rfl
      have s4 := hk2.four (x0 := .string ⟨#[]⟩) (x1 := .string ⟨#[]⟩) (x2 := .bool false) (x3 := .slice none 0 0)
      have r0 := s4.cell (i := 0) rfl
      have r1 := s4.cell (i := 1) rfl
      have r2 := s4.cell (i := 2) rfl
      have r3 := s4.cell (i := 3) rfl
      have hBF := hB2.trans (((Fr.refl (fun b => b = w.heap.size + 1) w2).four (p := w.heap.size + 1) (.inl rfl) (.string ⟨#[]⟩) (.string ⟨#[]⟩) (.bool false) (.slice none 0 0)).below hB2.size (fun b e => by omega))
      clear hsp HAO HG hB2 hk2 s4 hev2 HA
      go_wp2_with fail
      refine bodyPost_ret (v := .tuple #[.agg #[.string ⟨#[]⟩, .string ⟨#[]⟩, .bool false, .slice none 0 0], evc E 5]) ?_ rfl ?_
      · rw [results_cell_tmp rfl]
        rw [HV.out]
        go_simp
      · exact ⟨hBF, .inl ⟨5, HG2.out, by decide, by decide, rfl⟩⟩
  · have hN := names_bad E B t s _ (ht.ob hB0) (hE.ob hB0) h0
    have HG2 : Hid (getOf t s = .error (treeE t)) := hidd (getOf_err h0)
    have hbd : treeE t ≤ 10 := scan_bd _ 0
    have HV := hidd (evc_ne (E := E) h0)
    have HC0 := hidd h0
    rw [evc_ne h0] at hN
    obtain ⟨c, hc⟩ : ∃ c, treeE t = c := ⟨_, rfl⟩
    rw [hc] at hN HG2 hbd HV HC0
    unfold nval at hN ⊢
    rw [hv] at hN ⊢
    have HN := hidd hN
    clear hN ht hE hM h0 hv hc
    go_enter Tryz.func31, Tryz.ntmps31
    go_wp2_with fail
    refine HN.out.mono ?_
    rintro e w2 ⟨rfl, hb2⟩
    have hB2 := hB0.trans (hb2.mono hB0.size)
    have hk2 := hq2.below hb2 hq2.lt
    have f0 := hk2.frozen 0
    have f1 := hk2.frozen 1
    have f2 := hk2.frozen 2
    have f3 := hk2.frozen 3
    have y0 := hk2.cell (i := 0) rfl
    have y1 := hk2.cell (i := 1) rfl
    have y2 := hk2.cell (i := 2) rfl
    have y3 := hk2.cell (i := 3) rfl
    have s4 := hk2.four (x0 := .string ⟨#[]⟩) (x1 := .string ⟨#[]⟩) (x2 := .bool false) (x3 := .slice none 0 0)
    have r0 := s4.cell (i := 0) rfl
    have r1 := s4.cell (i := 1) rfl
    have r2 := s4.cell (i := 2) rfl
    have r3 := s4.cell (i := 3) rfl
    have hBF := hB2.trans (((Fr.refl (fun b => b = w.heap.size + 1) w2).four (p := w.heap.size + 1) (.inl rfl) (.string ⟨#[]⟩) (.string ⟨#[]⟩) (.bool false) (.slice none 0 0)).below hB2.size (fun b e => by omega))
    clear hq1 hq2 HN HT hb2 hB2 hk2 s4 HE0 hB0
    go_wp2_with fail
    refine bodyPost_ret (v := .tuple #[.agg #[.string ⟨#[]⟩, .string ⟨#[]⟩, .bool false, .slice none 0 0], evc E c]) ?_ rfl ?_
    · rw [results_cell_tmp rfl]
      rw [HV.out]
      go_simp
    · exact ⟨hBF, .inl ⟨c, HG2.out, HC0.out, hbd, rfl⟩⟩
end Go.Proofs.YtoemahhpheobkaaGreatDoor

namespace Go.Proofs.YtoemahhpheobkaaGreatDoor
open Go.RowKit Go.Shelf
section
variable {α : Type}

mutual
/-- The nodes of a tree with their names. -/
def preR : Tr α → List (List ByteArray × Tr α)
  | .mk k d e v ks => ([], .mk k d e v ks) :: presR ks
def presR : List (ByteArray × Tr α) → List (List ByteArray × Tr α)
  | [] => []
  | (n, t) :: r => (preR t).map (fun x => (n :: x.1, x.2)) ++ presR r
end
theorem preR_cons (t : Tr α) : preR t = ([], t) :: presR t.kids := by cases t; rfl
theorem presR_mem : ∀ {ks : List (ByteArray × Tr α)} {x}, x ∈ presR ks ↔ ∃ k ∈ ks, ∃ y ∈ preR k.2, x = (k.1 :: y.1, y.2)
  | [], x => by simp [presR]
  | (n, t) :: r, x => by
    rw [presR, List.mem_append, presR_mem (ks := r), List.mem_map]
    constructor
    · rintro (⟨y, hy, rfl⟩ | ⟨k, hk, y, hy, rfl⟩)
      · exact ⟨(n, t), List.mem_cons_self .., y, hy, rfl⟩
      · exact ⟨k, List.mem_cons_of_mem _ hk, y, hy, rfl⟩
    · rintro ⟨k, hk, y, hy, rfl⟩
      rcases List.mem_cons.1 hk with rfl | hk
      · exact .inl ⟨y, hy, rfl⟩
      · exact .inr ⟨k, hk, y, hy, rfl⟩
theorem jt_cons (p n : ByteArray) (l : List ByteArray) : p ++ jt (n :: l) = sub p n ++ jt l := by
  apply ba_inj
  unfold sub
  simp [jt, joined, joinL]
mutual
theorem pre_R (p : ByteArray) (d : Nat) : ∀ t : Tr α, pre p d t = (preR t).map fun x => (⟨p ++ jt x.1, d + x.1.length, x.2⟩ : It α)
  | .mk k da e v ks => by
    rw [pre, preR, List.map_cons, pres_R p d ks]
    congr 1
    · congr 1
      exact ba_inj (by simp [jt, joined, joinL])
theorem pres_R (p : ByteArray) (d : Nat) : ∀ ks : List (ByteArray × Tr α), pres p (d + 1) ks = (presR ks).map fun x => (⟨p ++ jt x.1, d + x.1.length, x.2⟩ : It α)
  | [] => rfl
  | (n, t) :: r => by
    rw [pres, presR, List.map_append, List.map_map, pre_R (sub p n) (d + 1) t, pres_R p d r]
    congr 1
    apply List.map_congr_left
    intro x _
    simp only [Function.comp, jt_cons, List.length_cons]
    congr 1; omega
end
theorem find_kid {ks : List (ByteArray × α)} (hr : rising (ks.map (·.1)) = true) {k : ByteArray × α} (hk : k ∈ ks) : ks.find? (fun x => decide (x.1 = k.1)) = some k := by
  obtain ⟨i, hi, rfl⟩ := List.getElem_of_mem hk
  rw [List.find?_eq_some_iff_getElem]
  refine ⟨by simp, i, hi, rfl, fun j hj => ?_⟩
  have h1 := rising_lt hr j i hj (by simpa using hi)
  simp only [List.getElem_map] at h1
  simp only [Bool.not_eq_true', decide_eq_false_iff_not]
  intro e
  rw [e] at h1
  have := (cmpB_eq (a := ks[i].1) (b := ks[i].1)).2 rfl
  omega
theorem preR_at (m : Nat) : ∀ (t : Tr α), t.sz ≤ m → treeE t = 0 → ∀ x ∈ preR t, atT t x.1 = some x.2 ∧ x.1.all isName = true ∧ treeE x.2 = 0 := by
  induction m with
  | zero => intro t hm; have := Tr.sz_kids t; omega
  | succ m ih =>
    intro t hm h x hx
    rw [preR_cons] at hx
    rcases List.mem_cons.1 hx with rfl | hx
    · exact ⟨rfl, rfl, h⟩
    · obtain ⟨k, hk, y, hy, rfl⟩ := presR_mem.1 hx
      have hs := Tr.sz_lt hk
      obtain ⟨h1, h2, h3⟩ := ih k.2 (by omega) (kid_right h hk) y hy
      refine ⟨?_, ?_, h3⟩
      · rw [atT, find_kid (right_rising h) hk]
        exact h1
      · rw [List.all_cons, own_names (treeE_own h).1 k hk, h2]; rfl
theorem preR_deep {t : Tr α} (h : treeE t = 0) : ∀ x ∈ preR t, x.1.length ≤ 8 := fun x hx => by
  have h1 := (scan_zero h).1 ⟨⟨#[]⟩ ++ jt x.1, 0 + x.1.length, x.2⟩ (by rw [pre_R]; exact List.mem_map.2 ⟨x, hx, rfl⟩)
  have := h1.1
  simp only at this
  omega
theorem names_joined {l : List ByteArray} (h : l.all isName = true) (h8 : l.length ≤ 8) : splitOf (pathOf (jt l)) = some l := by
  cases l with
  | nil =>
    apply splitOf_stroke
    rfl
  | cons n r =>
    have hst : Stroke (jt (n :: r)) := .inr ⟨n.data.toList ++ joined r, rfl⟩
    have hne : (jt (n :: r)).toList ≠ [] := by rw [Lib.toList_data]; intro e; cases e
    rw [path_fix hst, show fixP (jt (n :: r)) = jt (n :: r) from if_neg (by simpa using hne)]
    rw [splitOf_joined (l := n :: r) (by simp) (fun x hx c hc => isName_plain (by rw [List.all_eq_true] at h; exact h x hx) c hc) rfl]
    rw [if_neg, if_pos ⟨h8, h⟩]
    intro e
    obtain ⟨rfl, rfl⟩ := List.cons.inj e
    have : isName (⟨#[]⟩ : ByteArray) = true := by simpa using h
    revert this
    decide
theorem item_get {t : Tr α} (h : treeE t = 0) {x : List ByteArray × Tr α} (hx : x ∈ preR t) : getOf t (pathOf (jt x.1)) = .ok x.2 :=
  let h1 := preR_at t.sz t (Nat.le_refl _) h x hx
  getOf_ok h (names_joined h1.2.1 (preR_deep h x hx)) h1.1
mutual
theorem preR_nodup : ∀ t : Tr α, (∀ x ∈ pre ⟨#[]⟩ 0 t, rising (x.n.kids.map (·.1)) = true) → ((preR t).map (·.1)).Nodup
  | .mk k d e v ks => fun h => by
    rw [preR, List.map_cons, List.nodup_cons]
    refine ⟨?_, ?_⟩
    · intro hm
      obtain ⟨x, hx, he⟩ := List.mem_map.1 hm
      obtain ⟨k, _, y, _, rfl⟩ := presR_mem.1 hx
      cases he
    · have h0 := h ⟨⟨#[]⟩, 0, .mk k d e v ks⟩ (by rw [pre]; exact List.mem_cons_self ..)
      exact presR_nodup ks h0 (fun x hx => h x (by rw [pre]; exact List.mem_cons_of_mem _ hx))
theorem presR_nodup : ∀ ks : List (ByteArray × Tr α), rising (ks.map (·.1)) = true → (∀ x ∈ pres ⟨#[]⟩ 1 ks, rising (x.n.kids.map (·.1)) = true) → ((presR ks).map (·.1)).Nodup
  | [] => fun _ _ => by simp [presR]
  | (n, t) :: r => fun hr h => by
    rw [presR, List.map_append, List.nodup_append]
    have hrr : rising (r.map (·.1)) = true := by
      cases r with
      | nil => rfl
      | cons y r =>
        rw [List.map_cons, List.map_cons, rising, Bool.and_eq_true] at hr
        exact hr.2
    have hall : ∀ x ∈ pre ⟨#[]⟩ 0 t, rising (x.n.kids.map (·.1)) = true := fun x hx => by
      have e := pre_nodes ⟨#[]⟩ (sub ⟨#[]⟩ n) 0 1 t
      have hm : x.n ∈ (pre (sub ⟨#[]⟩ n) 1 t).map It.n := by rw [← e]; exact List.mem_map.2 ⟨x, hx, rfl⟩
      obtain ⟨y, hy, he⟩ := List.mem_map.1 hm
      rw [← he]
      exact h y (by rw [pres]; exact List.mem_append_left _ hy)
    refine ⟨?_, presR_nodup r hrr (fun x hx => h x (by rw [pres]; exact List.mem_append_right _ hx)), ?_⟩
    · have h1 := preR_nodup t hall
      rw [List.map_map]
      have e : (preR t).map ((·.1) ∘ fun x => (n :: x.1, x.2)) = ((preR t).map (·.1)).map (n :: ·) := by rw [List.map_map]; rfl
      rw [e]
      rw [List.Nodup, List.pairwise_map]
      exact List.Pairwise.imp (fun h e => h (List.cons.inj e).2) h1
    · intro a ha b hb e
      obtain ⟨x, hx, rfl⟩ := List.mem_map.1 ha
      obtain ⟨y, hy, rfl⟩ := List.mem_map.1 hx
      obtain ⟨z, hz, rfl⟩ := List.mem_map.1 hb
      obtain ⟨k, hk, u, _, rfl⟩ := presR_mem.1 hz
      simp only at e
      have e1 := (List.cons.inj e).1
      obtain ⟨i, hi, rfl⟩ := List.getElem_of_mem hk
      have := rising_lt hr 0 (i + 1) (by omega) (by simpa using hi)
      simp only [List.map_cons, List.getElem_cons_zero, List.getElem_cons_succ, List.getElem_map] at this
      rw [e1] at this
      have h0 := (cmpB_eq (a := r[i].1) (b := r[i].1)).2 rfl
      omega
end
theorem right_nodup {t : Tr α} (h : treeE t = 0) : ((preR t).map (·.1)).Nodup :=
  preR_nodup t (fun x hx => own_rising ((scan_zero h).1 x hx).2)

end
section
variable {α : Type}
/-- The files of a tree, with their names. -/
def filesR (t : Tr α) : List (List ByteArray × Tr α) := (preR t).filter fun x => decide (x.2.kind = kFile)
theorem fileL_R {t : Tr α} (h : treeE t = 0) : fileL (listed t) = (filesR t).map fun x => pathOf (jt x.1) := by
  rw [listed_of h, pre_R]
  unfold fileL filesR
  rw [List.filter_map, List.map_map]
  apply List.map_congr_left
  intro x _
  show pathOf (⟨#[]⟩ ++ jt x.1) = _
  rw [show (⟨#[]⟩ : ByteArray) ++ jt x.1 = jt x.1 from ba_inj (by simp)]
theorem fileSz_R {t : Tr α} (h : treeE t = 0) : fileSz (listed t) = ((filesR t).map fun x => x.2.data.size).sum := by
  rw [listed_of h, pre_R]
  unfold fileSz filesR
  rw [List.map_map]
  generalize preR t = l
  induction l with
  | nil => rfl
  | cons x r ih =>
    rw [List.map_cons, List.sum_cons, ih, List.filter_cons]
    show (if x.2.kind = kFile then x.2.data.size else 0) + _ = _
    by_cases hk : x.2.kind = kFile
    · simp [hk]
    · simp [hk]
theorem filesR_get {t : Tr α} (h : treeE t = 0) {x : List ByteArray × Tr α} (hx : x ∈ filesR t) : getOf t (pathOf (jt x.1)) = .ok x.2 ∧ x.2.kind = kFile := by
  obtain ⟨h1, h2⟩ := List.mem_filter.1 hx
  exact ⟨item_get h h1, of_decide_eq_true h2⟩
theorem fileL_nodup {t : Tr α} (h : treeE t = 0) : (fileL (listed t)).Nodup := by
  rw [fileL_R h]
  have h1 : ((filesR t).map (·.1)).Nodup := List.Nodup.sublist (List.Sublist.map _ List.filter_sublist) (right_nodup h)
  rw [List.nodup_iff_pairwise_ne] at h1 ⊢
  rw [List.pairwise_map] at h1 ⊢
  refine List.Pairwise.imp_of_mem ?_ h1
  intro a b ha hb hne e
  have ma := (List.mem_filter.1 ha).1
  have mb := (List.mem_filter.1 hb).1
  have pa := preR_at t.sz t (Nat.le_refl _) h a ma
  have pb := preR_at t.sz t (Nat.le_refl _) h b mb
  have e1 := names_joined pa.2.1 (preR_deep h a ma)
  have e2 := names_joined pb.2.1 (preR_deep h b mb)
  rw [e] at e1
  exact hne (Option.some.inj (e1.symm.trans e2))
end
end Go.Proofs.YtoemahhpheobkaaGreatDoor

namespace Go.Proofs.YtoemahhpheobkaaGreatDoor
open Go.RowKit Go.Shelf
section
variable {α : Type}

/-- Links followed: so many that one may still go, what is to do, where one is. -/
def fol (t : Tr α) : Nat → List ByteArray → List ByteArray → Except Nat (List ByteArray)
  | _, [], cur => .ok cur
  | k, n :: todo, cur =>
    if n.data.toList = [] ∨ n.data.toList = [46] then fol t k todo cur
    else if n.data.toList = [46, 46] then fol t k todo cur.dropLast
    else if isName n = false then .error 5
    else match atT t (cur ++ [n]) with
      | none => .error 6
      | some x =>
        if x.kind = kLink then match k with
          | 0 => .error 9
          | k + 1 => fol t k (pieces x.data ++ todo) (if x.data.data.toList.head? = some 47 then [] else cur)
        else fol t k todo (cur ++ [n])
termination_by k todo => (k, todo.length)
theorem fol_nil (t : Tr α) (k : Nat) (cur : List ByteArray) : fol t k [] cur = .ok cur := by rw [fol]
theorem fol_dot {t : Tr α} {k : Nat} {n : ByteArray} {todo cur : List ByteArray} (h : n.data.toList = [] ∨ n.data.toList = [46]) : fol t k (n :: todo) cur = fol t k todo cur := by rw [fol, if_pos h]
theorem fol_up {t : Tr α} {k : Nat} {n : ByteArray} {todo cur : List ByteArray} (h : n.data.toList = [46, 46]) : fol t k (n :: todo) cur = fol t k todo cur.dropLast := by
  rw [fol, if_neg (by rw [h]; simp), if_pos h]
theorem name_dots {n : ByteArray} (h : isName n = true) : ¬ (n.data.toList = [] ∨ n.data.toList = [46]) ∧ ¬ n.data.toList = [46, 46] := by
  unfold isName at h
  simp only [Bool.and_eq_true, decide_eq_true_eq, Bool.not_eq_true', decide_eq_false_iff_not] at h
  obtain ⟨⟨⟨⟨-, h1⟩, -⟩, h2⟩, h3⟩ := h
  have e : n.data.toList.length = n.size := by simp
  refine ⟨?_, h3⟩
  rintro (h | h)
  · rw [h] at e; simp at e; omega
  · exact h2 h
theorem fol_bad {t : Tr α} {k : Nat} {n : ByteArray} {todo cur : List ByteArray} (h1 : ¬ (n.data.toList = [] ∨ n.data.toList = [46])) (h2 : ¬ n.data.toList = [46, 46]) (h3 : isName n = false) : fol t k (n :: todo) cur = .error 5 := by
  rw [fol, if_neg h1, if_neg h2, if_pos h3]
theorem fol_none {t : Tr α} {k : Nat} {n : ByteArray} {todo cur : List ByteArray} (h : isName n = true) (ha : atT t (cur ++ [n]) = none) : fol t k (n :: todo) cur = .error 6 := by
  rw [fol, if_neg (name_dots h).1, if_neg (name_dots h).2, if_neg (by rw [h]; decide), ha]
theorem fol_go {t x : Tr α} {k : Nat} {n : ByteArray} {todo cur : List ByteArray} (h : isName n = true) (ha : atT t (cur ++ [n]) = some x) (hk : x.kind ≠ kLink) : fol t k (n :: todo) cur = fol t k todo (cur ++ [n]) := by
  rw [fol, if_neg (name_dots h).1, if_neg (name_dots h).2, if_neg (by rw [h]; decide), ha]
  simp only [if_neg hk]
theorem fol_last {t x : Tr α} {n : ByteArray} {todo cur : List ByteArray} (h : isName n = true) (ha : atT t (cur ++ [n]) = some x) (hk : x.kind = kLink) : fol t 0 (n :: todo) cur = .error 9 := by
  rw [fol, if_neg (name_dots h).1, if_neg (name_dots h).2, if_neg (by rw [h]; decide), ha]
  simp only [if_pos hk]
theorem fol_link {t x : Tr α} {k : Nat} {n : ByteArray} {todo cur : List ByteArray} (h : isName n = true) (ha : atT t (cur ++ [n]) = some x) (hk : x.kind = kLink) :
    fol t (k + 1) (n :: todo) cur = fol t k (pieces x.data ++ todo) (if x.data.data.toList.head? = some 47 then [] else cur) := by
  rw [fol, if_neg (name_dots h).1, if_neg (name_dots h).2, if_neg (by rw [h]; decide), ha]
  simp only [if_pos hk]

theorem atT_app : ∀ (a b : List ByteArray) (t : Tr α), atT t (a ++ b) = (atT t a).bind fun x => atT x b
  | [], b, t => rfl
  | n :: a, b, t => by
    rw [List.cons_append, atT, atT]
    cases t.kids.find? (fun k => decide (k.1 = n)) with
    | none => rfl
    | some k => exact atT_app a b k.2
theorem atT_mem : ∀ {l : List ByteArray} {t x : Tr α}, atT t l = some x → (l, x) ∈ preR t
  | [], t, x, e => by rw [atT] at e; rw [← Option.some.inj e, preR_cons]; exact List.mem_cons_self ..
  | n :: r, t, x, e => by
    rw [atT] at e
    cases hf : t.kids.find? (fun k => decide (k.1 = n)) with
    | none => rw [hf] at e; cases e
    | some k =>
      rw [hf] at e
      rw [preR_cons]
      refine List.mem_cons_of_mem _ (presR_mem.2 ⟨k, List.mem_of_find?_eq_some hf, (r, x), atT_mem e, ?_⟩)
      have := List.find?_some hf
      rw [of_decide_eq_true this]
/-- A node that has a kid is a dir. -/
theorem atT_dir {t x y : Tr α} {l : List ByteArray} {n : ByteArray} (h : treeE t = 0) (hx : atT t l = some x) (hy : atT t (l ++ [n]) = some y) : x.kind = kDir := by
  have hr := atT_right h hx
  cases hq : decide (x.kind = kDir) with
  | true => exact of_decide_eq_true hq
  | false =>
    have hk := own_leaf (treeE_own hr).1 (of_decide_eq_false hq)
    rw [atT_app, hx] at hy
    simp only [Option.bind_some, atT] at hy
    rw [hk] at hy
    cases hy
theorem dir_link : kDir ≠ kLink := by decide

/-- Where one is: a node that is no link. -/
def GoodC (t : Tr α) (cur : List ByteArray) : Prop := cur.all isName = true ∧ (cur = [] ∨ ∃ x, atT t cur = some x ∧ x.kind ≠ kLink)
theorem GoodC.nil (t : Tr α) : GoodC t [] := ⟨rfl, .inl rfl⟩
theorem GoodC.up {t : Tr α} {cur : List ByteArray} (h0 : treeE t = 0) (h : GoodC t cur) : GoodC t cur.dropLast := by
  obtain ⟨h1, h2⟩ := h
  rcases h2 with rfl | ⟨x, hx, hk⟩
  · exact ⟨rfl, .inl rfl⟩
  · by_cases hc : cur = []
    · subst hc; exact ⟨rfl, .inl rfl⟩
    · have e := List.dropLast_concat_getLast hc
      have ha := hx
      rw [← e, atT_app] at ha
      cases hy : atT t cur.dropLast with
      | none => rw [hy] at ha; cases ha
      | some y =>
        refine ⟨?_, .inr ⟨y, hy, ?_⟩⟩
        · rw [List.all_eq_true] at h1 ⊢
          exact fun z hz => h1 z (List.dropLast_subset _ hz)
        · rw [atT_dir h0 hy (by rw [e]; exact hx)]
          exact dir_link
theorem GoodC.add {t x : Tr α} {cur : List ByteArray} {n : ByteArray} (h : GoodC t cur) (hn : isName n = true) (hx : atT t (cur ++ [n]) = some x) (hk : x.kind ≠ kLink) : GoodC t (cur ++ [n]) :=
  ⟨by rw [List.all_append, h.1]; simp [hn], .inr ⟨x, hx, hk⟩⟩
theorem fol_good {t : Tr α} (h0 : treeE t = 0) (m : Nat) : ∀ (j k : Nat) (todo cur r : List ByteArray), k ≤ m → todo.length ≤ j → GoodC t cur → fol t k todo cur = .ok r → GoodC t r := by
  induction m with
  | zero =>
    intro j
    induction j with
    | zero =>
      intro k todo cur r _ hj hg h
      obtain rfl : todo = [] := List.eq_nil_of_length_eq_zero (by omega)
      rw [fol_nil] at h
      rw [← Except.ok.inj h]; exact hg
    | succ j ih =>
      intro k todo cur r hk hj hg h
      cases todo with
      | nil => rw [fol_nil] at h; rw [← Except.ok.inj h]; exact hg
      | cons n todo =>
        have hj' : todo.length ≤ j := by simpa using hj
        by_cases h1 : n.data.toList = [] ∨ n.data.toList = [46]
        · rw [fol_dot h1] at h; exact ih k todo cur r hk hj' hg h
        by_cases h2 : n.data.toList = [46, 46]
        · rw [fol_up h2] at h; exact ih k todo _ r hk hj' (hg.up h0) h
        cases h3 : isName n with
        | false => rw [fol_bad h1 h2 h3] at h; cases h
        | true =>
          cases ha : atT t (cur ++ [n]) with
          | none => rw [fol_none h3 ha] at h; cases h
          | some x =>
            by_cases hl : x.kind = kLink
            · obtain rfl : k = 0 := by omega
              rw [fol_last h3 ha hl] at h; cases h
            · rw [fol_go h3 ha hl] at h; exact ih k todo _ r hk hj' (hg.add h3 ha hl) h
  | succ m ihm =>
    intro j
    induction j with
    | zero =>
      intro k todo cur r _ hj hg h
      obtain rfl : todo = [] := List.eq_nil_of_length_eq_zero (by omega)
      rw [fol_nil] at h
      rw [← Except.ok.inj h]; exact hg
    | succ j ih =>
      intro k todo cur r hk hj hg h
      cases todo with
      | nil => rw [fol_nil] at h; rw [← Except.ok.inj h]; exact hg
      | cons n todo =>
        have hj' : todo.length ≤ j := by simpa using hj
        by_cases h1 : n.data.toList = [] ∨ n.data.toList = [46]
        · rw [fol_dot h1] at h; exact ih k todo cur r hk hj' hg h
        by_cases h2 : n.data.toList = [46, 46]
        · rw [fol_up h2] at h; exact ih k todo _ r hk hj' (hg.up h0) h
        cases h3 : isName n with
        | false => rw [fol_bad h1 h2 h3] at h; cases h
        | true =>
          cases ha : atT t (cur ++ [n]) with
          | none => rw [fol_none h3 ha] at h; cases h
          | some x =>
            by_cases hl : x.kind = kLink
            · cases k with
              | zero => rw [fol_last h3 ha hl] at h; cases h
              | succ k =>
                rw [fol_link h3 ha hl] at h
                refine ihm _ k _ _ r (by omega) (Nat.le_refl _) ?_ h
                split
                · exact GoodC.nil t
                · exact hg
            · rw [fol_go h3 ha hl] at h; exact ih k todo _ r hk hj' (hg.add h3 ha hl) h
/-- Where no link is on the way, one comes to the path's end. -/
theorem fol_plain {t : Tr α} (k : Nat) : ∀ (l cur : List ByteArray), l.all isName = true → (∀ i, i < l.length → ∃ x, atT t (cur ++ l.take (i + 1)) = some x ∧ x.kind ≠ kLink) → fol t k l cur = .ok (cur ++ l)
  | [], cur, _, _ => by rw [fol_nil, List.append_nil]
  | n :: l, cur, hn, h => by
    rw [List.all_cons, Bool.and_eq_true] at hn
    obtain ⟨x, hx, hk⟩ := h 0 (by simp)
    rw [List.take_succ_cons, List.take_zero] at hx
    rw [fol_go hn.1 hx hk, fol_plain k l (cur ++ [n]) hn.2 (fun i hi => by
      have := h (i + 1) (by simpa using hi)
      rwa [List.take_succ_cons, show cur ++ n :: l.take (i + 1) = cur ++ [n] ++ l.take (i + 1) by simp] at this)]
    simp

/-- Names as a path. -/
def joinP (l : List ByteArray) : ByteArray := pathOf (jt l)
/-- What is followed to: an error's number, or a path. -/
def followOf (t : Tr α) (s : ByteArray) : Except Nat (List ByteArray) :=
  if treeE t = 0 then match splitOf s with
    | none => .error 5
    | some l => fol t 16 l []
  else .error (treeE t)
theorem follow_err {t : Tr α} {s : ByteArray} (h : treeE t ≠ 0) : followOf t s = .error (treeE t) := by unfold followOf; rw [if_neg h]
theorem follow_split {t : Tr α} {s : ByteArray} (h : treeE t = 0) (hs : splitOf s = none) : followOf t s = .error 5 := by unfold followOf; rw [if_pos h, hs]
theorem follow_some {t : Tr α} {s : ByteArray} {l : List ByteArray} (h : treeE t = 0) (hs : splitOf s = some l) : followOf t s = fol t 16 l [] := by unfold followOf; rw [if_pos h, hs]
theorem good_split {t : Tr α} {r : List ByteArray} (h0 : treeE t = 0) (hg : GoodC t r) : splitOf (joinP r) = some r := by
  refine names_joined hg.1 ?_
  rcases hg.2 with rfl | ⟨x, hx, -⟩
  · simp
  · exact preR_deep h0 _ (atT_mem hx)
/-- What is followed to: a node that is no link, and it stays. -/
theorem follow_stays {t : Tr α} {s : ByteArray} {r : List ByteArray} (h : followOf t s = .ok r) :
    treeE t = 0 ∧ GoodC t r ∧ (∃ x, getOf t (joinP r) = .ok x ∧ (r = [] ∨ x.kind ≠ kLink)) ∧ followOf t (joinP r) = .ok r := by
  by_cases h0 : treeE t = 0
  · cases hs : splitOf s with
    | none => rw [follow_split h0 hs] at h; cases h
    | some l =>
      rw [follow_some h0 hs] at h
      have hg := fol_good h0 16 l.length 16 l [] r (Nat.le_refl _) (Nat.le_refl _) (GoodC.nil t) h
      have hsp := good_split h0 hg
      refine ⟨h0, hg, ?_, ?_⟩
      · rcases hg.2 with rfl | ⟨x, hx, hk⟩
        · exact ⟨t, getOf_ok h0 hsp rfl, .inl rfl⟩
        · exact ⟨x, getOf_ok h0 hsp hx, .inr hk⟩
      · rw [follow_some h0 hsp]
        have := fol_plain 16 r [] hg.1 (fun i hi => by
          rcases hg.2 with rfl | ⟨x, hx, hk⟩
          · simp at hi
          · rw [List.nil_append]
            have e := List.take_append_drop (i + 1) r
            have hx' := hx
            rw [← e, atT_app] at hx'
            cases hy : atT t (r.take (i + 1)) with
            | none => rw [hy] at hx'; cases hx'
            | some y =>
              refine ⟨y, rfl, ?_⟩
              by_cases hi1 : i + 1 = r.length
              · rw [hi1, List.take_of_length_le (Nat.le_refl _), hx] at hy
                rw [← Option.some.inj hy]; exact hk
              · have hdr : r.drop (i + 1) = r[i + 1]'(by omega) :: r.drop (i + 2) := by rw [List.getElem_cons_drop]
                rw [hy, hdr] at hx'
                simp only [Option.bind_some] at hx'
                rw [show (r[i + 1]'(by omega) :: r.drop (i + 2)) = [r[i + 1]'(by omega)] ++ r.drop (i + 2) from rfl, atT_app] at hx'
                cases hz : atT y [r[i + 1]'(by omega)] with
                | none => rw [hz] at hx'; cases hx'
                | some z =>
                  rw [atT_dir h0 hy (y := z) (n := r[i + 1]'(by omega)) (by rw [atT_app, hy]; exact hz)]
                  exact dir_link)
        simpa using this
  · rw [follow_err h0] at h; cases h
end
end Go.Proofs.YtoemahhpheobkaaGreatDoor
