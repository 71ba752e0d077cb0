/- Plain facts on which blocks are free, taken and given back: lists of Booleans. No condition. · The contracts of package space. Condition: the receiver is a space that New gave, of at most 512 blocks. · The contracts of space.Take, New, Copy, Give and Need. Condition: the receiver is a space that New gave. · The contracts of space.New, Give, Copy and Need. Condition: the receiver is a space that New gave. · The contract of space.Give. Condition: the receiver is a space that New gave. · The contract of space.Give where it gives back, and where one is free or twice there. Condition: the receiver is a space that New gave. · The contracts of space.Copy and of stillroomref2.NeedOf; Used of a copy. Condition: the receiver is a space that New gave. -/
import Derived.Test.YtoemahhpheobkaaGreatDoorEnv
import Derived.Test.YtoemahhpheobkaaGreatDoorApp
import Derived.WalkSpells
import Derived.Laws.Cover3
namespace Go.Proofs.YtoemahhpheobkaaGreatDoor

/-- The places below i that are in use. -/
def usedTo (us : List Bool) (i : Nat) : List Nat := (List.range i).filter fun j => us.getD j false
theorem usedTo_succ_t {us : List Bool} {i : Nat} (h : us.getD i false = true) : usedTo us (i + 1) = usedTo us i ++ [i] := by
  rw [List.getD_eq_getElem?_getD] at h
  simp [usedTo, List.range_succ, List.filter_append, h]
theorem usedTo_succ_f {us : List Bool} {i : Nat} (h : us.getD i false = false) : usedTo us (i + 1) = usedTo us i := by
  rw [List.getD_eq_getElem?_getD] at h
  simp [usedTo, List.range_succ, List.filter_append, h]
theorem usedTo_le (us : List Bool) (i : Nat) : (usedTo us i).length ≤ i := Nat.le_trans (List.length_filter_le _ _) (by simp)
/-- How many are free. -/
def nfree (us : List Bool) : Nat := us.length - (usedTo us us.length).length
/-- How many below i are free. -/
def freeTo (us : List Bool) : Nat → Nat
  | 0 => 0
  | i + 1 => freeTo us i + if us.getD i true = false then 1 else 0
theorem freeTo_used (us : List Bool) : ∀ i, i ≤ us.length → freeTo us i + (usedTo us i).length = i
  | 0, _ => by simp [freeTo, usedTo]
  | i + 1, h => by
    have ih := freeTo_used us i (by omega)
    have hi : i < us.length := by omega
    have e : us.getD i true = us.getD i false := by simp [List.getD_eq_getElem?_getD, List.getElem?_eq_getElem hi]
    cases hb : us.getD i false
    · rw [usedTo_succ_f hb]; simp only [freeTo, e, hb, if_true]; omega
    · rw [usedTo_succ_t hb]; simp only [freeTo, e, hb]; simp; omega
theorem nfree_eq (us : List Bool) : nfree us = freeTo us us.length := by
  have := freeTo_used us us.length (Nat.le_refl _)
  unfold nfree; omega
theorem freeTo_mono (us : List Bool) {i j : Nat} (h : i ≤ j) : freeTo us i ≤ freeTo us j := by
  induction h with
  | refl => exact Nat.le_refl _
  | step _ ih => exact Nat.le_trans ih (by simp [freeTo])

/-- Take k: after i rounds what was taken, and what is in use. -/
def tk (us : List Bool) (k : Nat) : Nat → List Nat × List Bool
  | 0 => ([], us)
  | i + 1 => if (tk us k i).1.length < k ∧ us.getD i true = false then ((tk us k i).1 ++ [i], (tk us k i).2.set i true) else tk us k i
theorem tk_succ (us : List Bool) (k i : Nat) : tk us k (i + 1) = if (tk us k i).1.length < k ∧ us.getD i true = false then ((tk us k i).1 ++ [i], (tk us k i).2.set i true) else tk us k i := rfl
theorem tk_len2 (us : List Bool) (k : Nat) : ∀ i, (tk us k i).2.length = us.length
  | 0 => rfl
  | i + 1 => by
    unfold tk
    split
    · simp [tk_len2 us k i]
    · exact tk_len2 us k i
theorem tk_len (us : List Bool) (k : Nat) : ∀ i, (tk us k i).1.length = min k (freeTo us i)
  | 0 => by simp [tk, freeTo]
  | i + 1 => by
    have ih := tk_len us k i
    unfold tk
    split
    · rename_i h
      simp only [List.length_append, List.length_singleton, ih, freeTo, h.2, if_true]
      have := h.1
      rw [ih] at this
      omega
    · rename_i h
      rw [ih]
      simp only [freeTo]
      by_cases hf : us.getD i true = false
      · have : ¬ min k (freeTo us i) < k := by rw [← ih]; exact fun h' => h ⟨h', hf⟩
        simp only [hf, if_true]; omega
      · simp only [hf]; simp
theorem tk_lt (us : List Bool) (k : Nat) : ∀ i, ∀ j, j ∈ (tk us k i).1 → j < i
  | 0, j, h => by simp [tk] at h
  | i + 1, j, h => by
    unfold tk at h
    split at h
    · simp only [List.mem_append, List.mem_singleton] at h
      rcases h with h | h
      · have := tk_lt us k i j h; omega
      · omega
    · have := tk_lt us k i j h; omega
theorem tk_ge (us : List Bool) (k : Nat) : ∀ i, ∀ j d, i ≤ j → (tk us k i).2.getD j d = us.getD j d
  | 0, _, _, _ => rfl
  | i + 1, j, d, h => by
    unfold tk
    split
    · have := tk_ge us k i j d (by omega)
      simp only [List.getD_eq_getElem?_getD] at this ⊢
      rw [List.getElem?_set_ne (by omega)]; exact this
    · exact tk_ge us k i j d (by omega)
theorem tk_stop {us : List Bool} {k i : Nat} (hk : k ≤ nfree us) (hl : (tk us k i).1.length < k) : i < us.length := by
  rw [tk_len] at hl
  rw [nfree_eq] at hk
  apply Nat.lt_of_not_le
  intro h
  have := freeTo_mono us h
  omega
/-- From where k are taken on nothing turns. -/
theorem tk_done {us : List Bool} {k i : Nat} (hl : ¬ (tk us k i).1.length < k) : ∀ d, tk us k (i + d) = tk us k i
  | 0 => rfl
  | d + 1 => by
    have ih := tk_done hl d
    show tk us k (i + d + 1) = _
    rw [tk_succ, ih, if_neg (fun h => hl h.1)]
theorem tk_succ_y {us : List Bool} {k i : Nat} (hl : (tk us k i).1.length < k) (hf : us.getD i true = false) : tk us k (i + 1) = ((tk us k i).1 ++ [i], (tk us k i).2.set i true) := by
  rw [tk_succ, if_pos ⟨hl, hf⟩]
theorem tk_succ_n {us : List Bool} {k i : Nat} (hf : ¬ us.getD i true = false) : tk us k (i + 1) = tk us k i := by
  rw [tk_succ, if_neg (fun h => hf h.2)]

/-- Give: the places of l are free again. -/
def giv (us : List Bool) : List Nat → List Bool
  | [] => us
  | j :: l => giv (us.set j false) l
theorem giv_len : ∀ (l : List Nat) (us : List Bool), (giv us l).length = us.length
  | [], _ => rfl
  | j :: l, us => by simp [giv, giv_len l]
theorem giv_snoc : ∀ (l : List Nat) (us : List Bool) (j : Nat), giv us (l ++ [j]) = (giv us l).set j false
  | [], _, _ => rfl
  | i :: l, us, j => by simp [giv, giv_snoc l]

end Go.Proofs.YtoemahhpheobkaaGreatDoor

namespace Go.Proofs.YtoemahhpheobkaaGreatDoor
open Go.RowKit

/-- Numbers as values. -/
def ints (l : List Nat) : List Value := l.map fun (j : Nat) => Value.int .i64 (j : Int)
theorem ints_len (l : List Nat) : (ints l).length = l.length := by simp [ints]
theorem ints_snoc (l : List Nat) (j : Nat) : ints (l ++ [j]) = ints l ++ [.int .i64 (j : Int)] := by simp [ints]

/-- A space: its struct lies in block p, its list in block r. -/
structure SpAt (w : World) (p r : Nat) (us : List Bool) : Prop where
  head : Blk w p [.slice (some ⟨r, 0, none⟩) us.length us.length] 154
  row : Blk w r (us.map Value.bool) 4
  ne : p ≠ r
  pos : 0 < us.length
  big : us.length ≤ 512
theorem SpAt.drew {w : World} {p r : Nat} {us : List Bool} (h : SpAt w p r us) : SpAt w.drew p r us := ⟨h.head.drew, h.row.drew, h.ne, h.pos, h.big⟩
theorem SpAt.alloc {w : World} {p r : Nat} {us : List Bool} (h : SpAt w p r us) (o : Obj) : SpAt (w.alloc o) p r us := ⟨h.head.alloc o, h.row.alloc o, h.ne, h.pos, h.big⟩
theorem SpAt.fr {w w' : World} {p r : Nat} {us : List Bool} {S : Nat → Prop} (h : SpAt w p r us) (hf : Fr S w w') (hp : ¬ S p) (hr : ¬ S r) : SpAt w' p r us := ⟨h.head.fr hf hp, h.row.fr hf hr, h.ne, h.pos, h.big⟩
theorem SpAt.ob {w w' : World} {p r : Nat} {us : List Bool} {B : Nat} (h : SpAt w p r us) (hf : Below B w w') (hB : w.heap.size ≤ B) : SpAt w' p r us :=
  ⟨h.head.below hf (Nat.lt_of_lt_of_le h.head.lt hB), h.row.below hf (Nat.lt_of_lt_of_le h.row.lt hB), h.ne, h.pos, h.big⟩
theorem SpAt.cell {w : World} {p r : Nat} {us : List Bool} (h : SpAt w p r us) {i : Nat} {b : Bool} (hi : us[i]? = some b) : w.cell? ⟨r, i, none⟩ = some (.bool b) := h.row.cell (by simp [hi])
theorem SpAt.hd {w : World} {p r : Nat} {us : List Bool} (h : SpAt w p r us) : w.cell? ⟨p, 0, none⟩ = some (.slice (some ⟨r, 0, none⟩) us.length us.length) := h.head.cell rfl
theorem SpAt.set {w : World} {p r : Nat} {us : List Bool} (h : SpAt w p r us) (i : Nat) (b : Bool) : SpAt (w.setCell ⟨r, i, none⟩ (.bool b)) p r (us.set i b) :=
  ⟨by simpa using h.head.other (a := ⟨r, i, none⟩) h.ne (.bool b), by simpa [List.map_set] using h.row.set i (.bool b), h.ne, by simpa using h.pos, by simpa using h.big⟩
theorem getD_some {us : List Bool} {i : Nat} (h : i < us.length) {d : Bool} : us[i]? = some (us.getD i d) := by
  simp [List.getD_eq_getElem?_getD, List.getElem?_eq_getElem h]

theorem infoI : (Tryz.prog.info? 3).map (fun i => (i.zero, i.size, i.bytes)) = some (some (.int .i64 0), 1, 8) := by kernel_rfl

set_option maxHeartbeats 1000000 in
theorem used_any (p r : Nat) (us : List Bool) (w : World) (h : SpAt w p r us) : Calls Tryz.prog 79 #[.pointer (some ⟨p, 0, none⟩)] w fun e w' =>
    ∃ a cap, e = .returned (.slice a (usedTo us us.length).length cap) ∧ w'.ownsRow w.heap.size 3 1 (.slice a (usedTo us us.length).length cap) (usedTo us us.length).length (ints (usedTo us us.length)) ∧ Below w.heap.size w w' := by
  obtain ⟨i0, hi, hz0, hz1, hz2⟩ := info_parts infoI
  have h1 := h.hd
  have h5 := h.big
  go_enter Tryz.func79, Tryz.ntmps79
  go_wp2
  go_loopw [3, 11] (fun v i wr => ∃ k : Nat, k ≤ us.length ∧ i = .int .i64 k ∧ wr.ownsRow w.heap.size 3 1 v (usedTo us k).length (ints (usedTo us k)) ∧ Below w.heap.size w wr) (fun _ i _ => us.length - (intOf i).toNat)
  case atStart => exact ⟨0, by omega, rfl, by simpa [usedTo, ints] using World.ownsRow_nil w w.heap.size 3 1, Below.refl _ _⟩
  case round =>
    obtain ⟨k, hk, rfl, hown, hb⟩ := hrel
    have hle := usedTo_le us k
    by_cases hlt : k < us.length
    · have hcell := (h.ob hb (Nat.le_refl _)).cell (getD_some (d := false) hlt)
      cases hu : us.getD k false
      · have H1 := hidd (usedTo_succ_f hu)
        rw [hu] at hcell
        clear hu h
        go_wp2
        go_roundw
        case rel => exact ⟨k+1, by omega, by go_num, by rw [H1.out]; exact hown, hb⟩
        case measure => simp [intOf]; omega
      · have H1 := hidd (usedTo_succ_t hu)
        rw [hu] at hcell
        have hsz := hb.size
        clear hu h
        go_wp2_with (at_builtin; refine wpList_append_own _ rfl _ _ 44 rfl w.heap.size 3 i0 (.int .i64 0) 1 8 Tryz.underlying44 hi hz0 hz1 hz2 rfl (by decide) _ _ _ rfl (hown.alloc _) ⟨wr.heap.size, 0, none⟩ 1 1 [.int .i64 k] rfl rfl ?c1 ?c2 ?c3 ?c4 ?c5 ?_)
        case c1 => exact cell_one_new' _ _ _
        case c2 => simp [Value.oneCell']
        case c3 => unfold maxLen; omega
        case c4 => omega
        case c5 => simp; omega
        intro v' w1 hown' hgrow _
        go_wp2
        go_roundw
        case rel => exact ⟨k+1, by omega, by go_num, by rw [H1.out, ints_snoc, List.length_append]; simpa using hown', (hb.alloc hsz _).grown hgrow (by simp; omega) (fun k hk => (hown.lt k hk).1)⟩
        case measure => simp [intOf]; omega
    · obtain rfl : k = us.length := by omega
      obtain ⟨ad, cap, rfl⟩ := owns_slice hown
      clear h
      go_wp2
      go_ret
      exact ⟨_, _, rfl, hown, hb⟩

set_option maxHeartbeats 1000000 in
theorem free_any (p r : Nat) (us : List Bool) (w : World) (h : SpAt w p r us) : Calls Tryz.prog 47 #[.pointer (some ⟨p, 0, none⟩)] w fun e w' =>
    e = .returned (.int .i64 (nfree us : Nat)) ∧ Below w.heap.size w w' := by
  have hle := usedTo_le us us.length
  have h5 := h.big
  have hle' : (usedTo us us.length).length ≤ 512 := by omega
  have hwr : IntKind.i64.wrap ((us.length : Int) - ((usedTo us us.length).length : Int)) = ((nfree us : Nat) : Int) := by
    rw [i64_in _ (by omega)]; unfold nfree; omega
  go_enter Tryz.func47, Tryz.ntmps47
  go_wp2_with fail
  go_region_held3 (fun w' => w'.cell? ⟨p, 0, none⟩ = some (.slice (some ⟨r, 0, none⟩) us.length us.length) ∧ Below w.heap.size w w')
    (first | exact ⟨h.hd, (Below.refl _ _).drew⟩ | exact ⟨(h.drew.ob hb (Nat.le_refl _)).hd, (Below.refl _ _).drew.trans hb⟩)
    (first | (go_at_call 79; refine (used_any p r us _ h.drew).mono ?_; rintro e w' ⟨ad, cap, rfl, ho, hb⟩))
  generalize (usedTo us us.length).length = m at *
  go_wp2
  go_ret
  exact ⟨rfl, (Below.refl _ _).drew.trans hb⟩

theorem take_neg (E : Nat → Addr) (p : Value) (k : Int) (hk : k < 0) (w : World) (hE : w.cell? ⟨4, 0, none⟩ = some (erv E 4)) :
    Calls Tryz.prog 65 #[p, .int .i64 k] w fun e w' => e = .returned (.tuple #[.slice none 0 0, erv E 4]) ∧ Below w.heap.size w w' := by
  unfold erv at *
  go_enter Tryz.func65, Tryz.ntmps65
  go_wp2_with fail
  go_quiet (fail)
  go_wp2
  go_ret2
  exact ⟨rfl, by first | exact Below.drewN _ _ _ | (repeat (first | exact Below.refl _ _ | apply Below.drew))⟩
end Go.Proofs.YtoemahhpheobkaaGreatDoor

namespace Go.Proofs.YtoemahhpheobkaaGreatDoor
open Go.RowKit

set_option maxRecDepth 100000 in
set_option maxHeartbeats 1000000 in
theorem take_full (E : Nat → Addr) (p r : Nat) (us : List Bool) (k : Int) (w : World) (h : SpAt w p r us) (h0 : 0 ≤ k) (hk : ((nfree us : Nat) : Int) < k) (B : Nat) (G : List Nat) (hE : Env G B w E) (hg : 0 ∈ G) :
    Calls Tryz.prog 65 #[.pointer (some ⟨p, 0, none⟩), .int .i64 k] w fun e w' => e = .returned (.tuple #[.slice none 0 0, erv E 0]) ∧ Below w.heap.size w w' := by
  have hn : ¬ k < 0 := by omega
  go_enter Tryz.func65, Tryz.ntmps65
  go_wp2_with fail
  refine (free_any p r us w h).mono ?_
  rintro e w1 ⟨rfl, hb⟩
  have hc := (hE.ob hb).cell _ hg
  unfold erv at *
  clear h hE
  go_wp2_with fail
  go_quiet (fail)
  go_wp2
  go_ret2
  exact ⟨rfl, hb.trans (by first | exact Below.drewN _ _ _ | (repeat (first | exact Below.refl _ _ | apply Below.drew)))⟩

theorem cell_one_at (w : World) (n : Nat) (hn : n = w.heap.size) (u : Value) (T : TypeId) : ∀ j x, [u][j]? = some x → (w.alloc (.cells #[u] T)).cell? ((⟨n, 0, none⟩ : Addr).add j) = some x := by
  subst hn; exact cell_one_new' w u T
theorem owns_set {base : Nat} {e : TypeId} {size : Nat} {v : Value} {n : Nat} {xs : List Value} {w : World} (h : w.ownsRow base e size v n xs) {a : Addr} (hb : a.block < base) (u : Value) : (w.setCell a u).ownsRow base e size v n xs :=
  ownsRow_setCell_below h hb u

set_option maxRecDepth 100000 in
set_option maxHeartbeats 2000000 in
theorem take_ok (p r : Nat) (us : List Bool) (k : Nat) (w : World) (h : SpAt w p r us) (hk : k ≤ nfree us) :
    Calls Tryz.prog 65 #[.pointer (some ⟨p, 0, none⟩), .int .i64 (k : Int)] w fun e w' => ∃ a cap, e = .returned (.tuple #[.slice a k cap, .nilIface]) ∧
      w'.ownsRow w.heap.size 3 1 (.slice a k cap) k (ints (tk us k us.length).1) ∧ SpAt w' p r (tk us k us.length).2 ∧ Fr (fun b => b = r) w w' := by
  obtain ⟨i0, hi, hz0, hz1, hz2⟩ := info_parts infoI
  have hbig := h.big
  have hnf : nfree us ≤ us.length := by unfold nfree; omega
  have hk1 : k ≤ 512 := by omega
  have hrlt := h.row.lt
  have hplt := h.head.lt
  have hd0 : decide ((k : Int) < 0) = false := by simp
  have hd1 : decide (nfree us < k) = false := by simp; omega
  go_enter Tryz.func65, Tryz.ntmps65
  go_wp2_with fail
  refine (free_any p r us w h).mono ?_
  rintro e w1 ⟨rfl, hb⟩
  have h1 := h.ob hb (Nat.le_refl _)
  go_wp2_with fail
  go_loopw [6, 7] (fun v i wr => ∃ j : Nat, j ≤ us.length ∧ i = .int .i64 j ∧ wr.ownsRow w.heap.size 3 1 v (tk us k j).1.length (ints (tk us k j).1) ∧ SpAt wr p r (tk us k j).2 ∧ Fr (fun b => b = r) w wr) (fun _ i _ => us.length - (intOf i).toNat)
  case atStart => exact ⟨0, by omega, rfl, by simpa [tk, ints] using World.ownsRow_nil w1 w.heap.size 3 1, h1, Fr.ob hb⟩
  case round =>
    obtain ⟨j, hj, rfl, hown, hsp, hfr⟩ := hrel
    obtain ⟨ad, cap, rfl⟩ := owns_slice hown
    have hle : (tk us k j).1.length ≤ k := by rw [tk_len]; omega
    have hl2 := tk_len2 us k j
    by_cases hl : (tk us k j).1.length < k
    · have hlt := tk_stop hk hl
      have hge := tk_ge us k j j true (Nat.le_refl _)
      have hhd := hsp.hd
      rw [hl2] at hhd
      have hcell := hsp.cell (i := j) (getD_some (d := true) (by omega))
      have hfz := hsp.row.frozen j
      rw [hge] at hcell
      cases hu : us.getD j true
      · have H1 := hidd (tk_succ_y hl hu)
        rw [hu] at hcell
        have hsz := hfr.size
        have hsp' := hsp.set j true
        have hown1 := (owns_set hown (a := ⟨r, j, none⟩) (by simpa using hrlt) (.bool true))
        generalize (tk us k j).1 = t1 at *
        generalize (tk us k j).2 = t2 at *
        clear hu h h1 hge
        go_wp2_with (at_builtin; refine wpList_append_own _ rfl _ _ 44 rfl w.heap.size 3 i0 (.int .i64 0) 1 8 Tryz.underlying44 hi hz0 hz1 hz2 rfl (by decide) _ _ _ rfl (hown1.alloc _) ⟨wr.heap.size, 0, none⟩ 1 1 [.int .i64 j] rfl rfl ?c1 ?c2 ?c3 ?c4 ?c5 ?_)
        case c1 => exact cell_one_at _ _ (by simp [World.setCell]) _ _
        case c2 => simp [Value.oneCell']
        case c3 => unfold maxLen; omega
        case c4 => omega
        case c5 => simp [World.setCell]; omega
        intro v' w2 hown' hgrow _
        have hfr2 : Fr (fun b => b = r) w w2 := ((hfr.setCell (p := ⟨r, j, none⟩) (.inl rfl) (.bool true)).alloc _).grown hgrow (fun b hb => .inr (hown1.lt b hb).1)
        have hsp2 : SpAt w2 p r (t2.set j true) := by
          have hs := hsp'.alloc (.cells #[.int .i64 j] 3)
          have hnb : ∀ b, b < w.heap.size → some b ≠ (Value.slice ad t1.length cap).ownBlock := fun b hb e => by have := (hown1.lt b e.symm).1; omega
          exact ⟨hs.head.grown hgrow (hnb p (by assumption)), hs.row.grown hgrow (hnb r hrlt), hs.ne, hs.pos, hs.big⟩
        go_wp2
        go_roundw
        case rel => exact ⟨j+1, by omega, by go_num, by rw [H1.out]; simpa [ints_snoc] using hown', by rw [H1.out]; exact hsp2, hfr2⟩
        case measure => simp [intOf]; omega
      · have H1 := hidd (tk_succ_n (k := k) (i := j) (us := us) (by rw [hu]; decide))
        rw [hu] at hcell
        clear hu h h1 hge
        generalize hT : tk us k j = T at *
        clear hT
        go_wp2
        go_roundw
        case rel => exact ⟨j+1, by omega, by go_num, by rw [H1.out]; exact hown, by rw [H1.out]; exact hsp, hfr⟩
        case measure => simp [intOf]; omega
    · have hd := tk_done hl (us.length - j)
      rw [show j + (us.length - j) = us.length by omega] at hd
      have hk2 : (tk us k j).1.length = k := by omega
      have H1 := hidd hd
      have H2 := hidd hk2
      rw [hk2] at hown
      generalize hT : tk us k j = T at *
      clear hT hd hk2 h h1
      go_wp2
      go_ret2
      exact ⟨ad, cap, by rw [H2.out]; rfl, by rw [H1.out]; exact hown, by rw [H1.out]; exact hsp, hfr⟩
end Go.Proofs.YtoemahhpheobkaaGreatDoor

namespace Go.Proofs.YtoemahhpheobkaaGreatDoor
open Go.RowKit

theorem need_any (n : Int) (w : World) (h1 : n ≤ 1000000) : Calls Tryz.prog 61 #[.int .i64 n] w fun e w' => e = .returned (.int .i64 (if n < 1 then 0 else (n - 1) / 16 + 1)) ∧ w = w' := by
  by_cases h : n < 1
  · rw [if_pos h]
    go_enter Tryz.func61, Tryz.ntmps61
    go_wp2
    go_ret
    exact ⟨rfl, rfl⟩
  · rw [if_neg h]
    have h0 : 1 ≤ n := by omega
    go_enter Tryz.func61, Tryz.ntmps61
    go_wp2
    go_ret
    exact ⟨rfl, rfl⟩

set_option maxRecDepth 100000 in
theorem spnew_bad (E : Nat → Addr) (n : Int) (w : World) (hn : n < 1 ∨ 512 < n) (hE : w.cell? ⟨4, 0, none⟩ = some (erv E 4)) :
    Calls Tryz.prog 86 #[.int .i64 n] w fun e w' => e = .returned (.tuple #[.pointer none, erv E 4]) ∧ Below w.heap.size w w' := by
  unfold erv at *
  by_cases h : n < 1
  · clear hn
    go_enter Tryz.func86, Tryz.ntmps86
    go_wp2_with fail
    go_quiet (fail)
    go_wp2
    go_ret2
    exact ⟨rfl, by first | exact Below.drewN _ _ _ | (repeat (first | exact Below.refl _ _ | apply Below.drew))⟩
  · have h2 : 512 < n := by omega
    clear hn
    go_enter Tryz.func86, Tryz.ntmps86
    go_wp2_with fail
    go_quiet (fail)
    go_wp2
    go_ret2
    exact ⟨rfl, by first | exact Below.drewN _ _ _ | (repeat (first | exact Below.refl _ _ | apply Below.drew))⟩

def SpNew (n : Nat) (w : World) (e : Ending) (w' : World) : Prop := ∃ p r, e = .returned (.tuple #[.pointer (some ⟨p, 0, none⟩), .nilIface]) ∧ SpAt w' p r (List.replicate n false) ∧ w.heap.size ≤ p ∧ w.heap.size ≤ r ∧ Below w.heap.size w w'
theorem infoB : (Tryz.prog.info? 4).map (fun i => (i.zero, i.size, i.bytes)) = some (some (.bool false), 1, 1) := by kernel_rfl

set_option maxRecDepth 100000 in
theorem spnew_ok (n : Nat) (w : World) (h1 : 1 ≤ n) (h2 : n ≤ 512) :
    Calls Tryz.prog 86 #[.int .i64 (n : Int)] w (SpNew n w) := by
  have h3 : ¬ (n : Int) < 1 := by omega
  have h4 : ¬ (512 : Int) < (n : Int) := by omega
  obtain ⟨i0, hi, hz0, hz1, hz2⟩ := info_parts infoB
  have hmk := run_makeSlice (P := Tryz.prog) w 152 4 i0 (.bool false) Tryz.underlying152 hi hz0 .i64 .i64 (n : Int) (n : Int) (by omega) (Int.le_refl _) (by rw [hz1]; simp; omega) (by rw [hz2]; omega) (by omega)
  rw [Int.toNat_natCast, hz1] at hmk
  have hcs : madeCells (Value.bool false).cells (n * 1) = ((List.replicate n false).map Value.bool).toArray := by
    apply Array.toList_inj.1
    rw [Nat.mul_one, show (Value.bool false).cells = #[Value.bool false] from rfl, toList_madeCells_one]
    simp
  rw [hcs] at hmk
  generalize hL : (List.replicate n false).map Value.bool = L at hmk
  have HL := hidd hL
  clear hL hcs hi hz0 hz1 hz2
  go_enter Tryz.func86, Tryz.ntmps86
  go_wp2_with fail
  go_ret2
  refine ⟨w.heap.size + 1, w.heap.size, rfl, ⟨?_, ?_, by omega, by simp; omega, by simpa using h2⟩, by omega, Nat.le_refl _, ?_⟩
  · have := Blk.new (w.alloc (.cells L.toArray 4)) [.slice (some ⟨w.heap.size, 0, none⟩) n n] 154
    simpa using this
  · rw [HL.out]; exact (Blk.new w L 4).alloc _
  · exact ((Below.refl _ _).alloc (Nat.le_refl _) _).alloc (by simp) _
end Go.Proofs.YtoemahhpheobkaaGreatDoor

namespace Go.Proofs.YtoemahhpheobkaaGreatDoor
open Go.RowKit

/-- Is a number none of a block? -/
def badK (n : Nat) (x : Int) : Bool := decide (x < 0) || decide ((n : Int) ≤ x)

theorem give_cl (c p r : Nat) (us : List Bool) (x : Int) (w : World) (hc : w.cell? ⟨c, 0, none⟩ = some (.pointer (some ⟨p, 0, none⟩))) (h : SpAt w p r us) :
    Calls Tryz.prog 93 #[.int .i64 x, .pointer (some ⟨c, 0, none⟩)] w (IsBool (badK us.length x) w) := by
  have hd := h.hd
  have hb := h.big
  unfold badK
  by_cases h0 : x < 0
  · have h1 : decide (x < 0) = true := by simpa using h0
    rw [h1, Bool.true_or]
    clear h
    go_enter Tryz.func93, Tryz.ntmps93
    go_wp2
    go_ret
    exact ⟨rfl, rfl⟩
  · have h1 : decide (x < 0) = false := by simpa using h0
    rw [h1, Bool.false_or]
    clear h
    generalize us.length = n at *
    by_cases h2 : (n : Int) ≤ x
    · have h3 : decide ((n : Int) ≤ x) = true := by simpa using h2
      rw [h3]
      go_enter Tryz.func93, Tryz.ntmps93
      go_wp2
      go_ret
      exact ⟨rfl, rfl⟩
    · have h3 : decide ((n : Int) ≤ x) = false := by simpa using h2
      rw [h3]
      go_enter Tryz.func93, Tryz.ntmps93
      go_wp2
      go_ret
      exact ⟨rfl, rfl⟩

/-- slices.IndexFunc with Give's function. -/
def IdxF (q : Int → Bool) (l : List Int) (w : World) (e : Ending) (w' : World) : Prop := (∃ k : Int, e = .returned (.int .i64 k) ∧ (0 ≤ k ↔ l.any q = true)) ∧ w = w'
theorem give_idx (c p r : Nat) (us : List Bool) (v : Value) (l : List Int) (w : World) (hc : w.cell? ⟨c, 0, none⟩ = some (.pointer (some ⟨p, 0, none⟩))) (h : SpAt w p r us) (hv : Sl w v (icells l) l.length 1) :
    Calls Tryz.prog 114 #[v, .func (.func 93) #[] #[.pointer (some ⟨c, 0, none⟩)]] w (IdxF (badK us.length) l w) := by
  obtain ⟨a, cap, rfl, -⟩ := id hv
  have hm := hv.le
  go_enter Tryz.func114, Tryz.ntmps114
  go_wp2_with fail
  go_loop [8] (fun i => ∃ k : Nat, k ≤ l.length ∧ i = .int .i64 k ∧ (l.take k).any (badK us.length) = false) (fun i => l.length - (intOf i).toNat)
  case atStart => exact ⟨0, Nat.zero_le _, rfl, by simp⟩
  case round =>
    obtain ⟨k, hk, rfl, hnot⟩ := hrel
    by_cases hlt : k < l.length
    · obtain ⟨b, off, rfl, -, hc', hcell⟩ := hv.at1 hlt
      rw [show (icells l)[k] = .int .i64 l[k] by simp [icells]] at hcell
      have hs : (l.take (k + 1)).any (badK us.length) = badK us.length l[k] := by
        rw [List.take_succ_eq_append_getElem hlt, List.any_append, hnot]; simp
      cases hx : badK us.length l[k]
      · rw [hx] at hs
        have HX := hidd hx
        clear hx hnot hc'
        have hlt2 : k + 1 ≤ l.length := hlt
        generalize l[k] = y at *
        go_wp2_with (go_at_call 93; refine (give_cl c p r us y _ hc h).mono ?_; rintro e w' ⟨rfl, rfl⟩; rw [HX.out])
        go_round
        case rel => exact ⟨k + 1, by omega, by go_num, hs⟩
        case measure => simp [intOf]; omega
      · have hin : l.any (badK us.length) = true := by
          rw [List.any_eq_true]; exact ⟨l[k], List.getElem_mem _, hx⟩
        have HX := hidd hx
        have HI := hidd hin
        clear hx hnot hc' hm hs hin
        generalize l[k] = y at *
        go_wp2_with (go_at_call 93; refine (give_cl c p r us y _ hc h).mono ?_; rintro e w' ⟨rfl, rfl⟩; rw [HX.out])
        go_ret
        exact ⟨⟨_, rfl, by simp [HI.out]⟩, rfl⟩
    · rw [List.take_of_length_le (by omega)] at hnot
      have HI := hidd hnot
      clear hnot hv h hc
      go_wp2
      go_ret
      exact ⟨⟨-1, rfl, by simp [HI.out]⟩, rfl⟩

theorem give_any (c p r : Nat) (us : List Bool) (v : Value) (l : List Int) (w : World) (hc : w.cell? ⟨c, 0, none⟩ = some (.pointer (some ⟨p, 0, none⟩))) (h : SpAt w p r us) (hv : Sl w v (icells l) l.length 1) :
    Calls Tryz.prog 92 #[v, .func (.func 93) #[] #[.pointer (some ⟨c, 0, none⟩)]] w (IsBool (l.any (badK us.length)) w) := by
  cases hx : l.any (badK us.length)
  · go_enter Tryz.func92, Tryz.ntmps92
    go_wp2_with fail
    refine (give_idx c p r us v l w hc h hv).mono ?_
    rintro e w' ⟨⟨k, rfl, hk⟩, rfl⟩
    have hk0 : ¬ 0 ≤ k := fun h0 => by rw [hk.1 h0] at hx; cases hx
    clear hk hx hv h hc
    go_wp2
    go_ret
    exact ⟨by simp; omega, rfl⟩
  · go_enter Tryz.func92, Tryz.ntmps92
    go_wp2_with fail
    refine (give_idx c p r us v l w hc h hv).mono ?_
    rintro e w' ⟨⟨k, rfl, hk⟩, rfl⟩
    have hk0 : 0 ≤ k := hk.2 hx
    clear hk hx hv h hc
    go_wp2
    go_ret
    exact ⟨by simp, rfl⟩

/-- The first k numbers of l are in use, each once. -/
def gOk (us : List Bool) (l : List Int) (k : Nat) : Prop := ∀ i, i < k → us.getD (l.getD i 0).toNat false = true ∧ l.getD i 0 ∉ l.take i
theorem gOk_succ {us : List Bool} {l : List Int} {k : Nat} (h : gOk us l k) (h1 : us.getD (l.getD k 0).toNat false = true) (h2 : l.getD k 0 ∉ l.take k) : gOk us l (k + 1) := by
  intro i hi
  by_cases e : i = k
  · subst e; exact ⟨h1, h2⟩
  · exact h i (by omega)

set_option maxRecDepth 100000 in
theorem give_bound (E : Nat → Addr) (p r : Nat) (us : List Bool) (v : Value) (l : List Int) (w : World) (h : SpAt w p r us) (hv : Sl w v (icells l) l.length 1) (hbad : l.any (badK us.length) = true)
    (B : Nat) (G : List Nat) (hE : Env G B w E) (hg : 4 ∈ G) :
    Calls Tryz.prog 68 #[.pointer (some ⟨p, 0, none⟩), v] w fun e w' => e = .returned (erv E 4) ∧ Below w.heap.size w w' := by
  have hmf : ∀ (fn : Fn) (first cap : Array Value) (w : World), (Instr.makeFunc fn first cap).run Tryz.prog w = .ok (.func fn first cap) w := fun _ _ _ _ => rfl
  have hb1 : Below w.heap.size w (w.alloc (.cells #[.pointer (some ⟨p, 0, none⟩)] 104)) := (Below.refl _ _).alloc (Nat.le_refl _) _
  have hcell : (w.alloc (.cells #[.pointer (some ⟨p, 0, none⟩)] 104)).cell? ⟨w.heap.size, 0, none⟩ = some (.pointer (some ⟨p, 0, none⟩)) := by
    rw [World.cell?_alloc_at _ _ _ _ rfl]; rfl
  have hc := (hE.ob hb1).cell _ hg
  unfold erv at *
  go_enter Tryz.func68, Tryz.ntmps68
  go_wp2_with fail
  refine (give_any w.heap.size p r us v l _ hcell (h.ob hb1 (Nat.le_refl _)) (hv.ob hb1 (Nat.le_refl _))).mono ?_
  rintro e w' ⟨rfl, rfl⟩
  rw [hbad]
  clear h hv hE hcell
  go_wp2
  go_ret
  exact ⟨rfl, hb1⟩
end Go.Proofs.YtoemahhpheobkaaGreatDoor

namespace Go.Proofs.YtoemahhpheobkaaGreatDoor
open Go.RowKit

theorem Sl.cap {w : World} {a : Option Addr} {cap : Nat} {cs : List Value} {n n' size : Nat} (h : Sl w (.slice a n' cap) cs n size) : n ≤ cap := by
  obtain ⟨a', cap', he, h1, h2, h2', h3⟩ := h
  simp only [Value.slice.injEq] at he
  obtain ⟨rfl, rfl, rfl⟩ := he
  exact h2
theorem Sl.take {w : World} {a : Option Addr} {cap : Nat} {cs : List Value} {n size : Nat} (h : Sl w (.slice a n cap) cs n size) {k : Nat} (hk : k ≤ n) : Sl w (.slice a k cap) (cs.take (k * size)) k size := by
  obtain ⟨a', cap', he, h1, h2, h2', h3⟩ := h
  simp only [Value.slice.injEq] at he
  obtain ⟨rfl, _, rfl⟩ := he
  have hks : k * size ≤ n * size := Nat.mul_le_mul_right _ hk
  refine ⟨_, _, rfl, by rw [List.length_take]; omega, by omega, h2', ?_⟩
  rcases h3 with h3 | ⟨b, off, rfl, h4, h5⟩
  · exact .inl (by omega)
  · exact .inr ⟨b, off, rfl, h4, fun j hj => by
      rw [List.length_take] at hj
      rw [List.getElem_take]; exact h5 j (by omega)⟩
theorem icells_take (l : List Int) (k : Nat) : (icells l).take k = icells (l.take k) := by simp [icells]
theorem badK_lt {n : Nat} {l : List Int} (h : l.any (badK n) = false) {i : Nat} (hi : i < l.length) : 0 ≤ l[i] ∧ l[i] < (n : Int) := by
  rw [List.any_eq_false] at h
  have := h l[i] (List.getElem_mem _)
  simp only [badK, Bool.or_eq_true, decide_eq_true_eq, not_or] at this
  omega

set_option maxRecDepth 100000 in
set_option maxHeartbeats 2000000 in
theorem give_ok (p r : Nat) (us : List Bool) (v : Value) (l : List Int) (w : World) (h : SpAt w p r us) (hv : Sl w v (icells l) l.length 1) (hvr : v.ownBlock ≠ some r) (hbad : l.any (badK us.length) = false) (hok : gOk us l l.length) :
    Calls Tryz.prog 68 #[.pointer (some ⟨p, 0, none⟩), v] w fun e w' => e = .returned .nilIface ∧ SpAt w' p r (giv us (l.map Int.toNat)) ∧ Fr (fun b => b = r) w w' := by
  have hmf : ∀ (fn : Fn) (first cap : Array Value) (w : World), (Instr.makeFunc fn first cap).run Tryz.prog w = .ok (.func fn first cap) w := fun _ _ _ _ => rfl
  have hb1 : Below w.heap.size w (w.alloc (.cells #[.pointer (some ⟨p, 0, none⟩)] 104)) := (Below.refl _ _).alloc (Nat.le_refl _) _
  have hcell : (w.alloc (.cells #[.pointer (some ⟨p, 0, none⟩)] 104)).cell? ⟨w.heap.size, 0, none⟩ = some (.pointer (some ⟨p, 0, none⟩)) := by
    rw [World.cell?_alloc_at _ _ _ _ rfl]; rfl
  have hsp := h.ob hb1 (Nat.le_refl _)
  have hv1 := hv.ob hb1 (Nat.le_refl _)
  obtain ⟨a, cap, rfl, -⟩ := id hv
  have hm := hv.le
  have hrlt := h.row.lt
  go_enter Tryz.func68, Tryz.ntmps68
  go_wp2_with fail
  generalize hW : w.alloc _ = W1 at *
  have HW := hidd hW
  clear hW
  refine (give_any w.heap.size p r us _ l _ hcell hsp hv1).mono ?_
  rintro e w' ⟨rfl, rfl⟩
  rw [hbad]
  have hhd := hsp.hd
  go_wp2_with fail
  go_loop [15] (fun i => ∃ k : Nat, k ≤ l.length ∧ i = .int .i64 k) (fun i => l.length - (intOf i).toNat)
  case atStart => exact ⟨0, Nat.zero_le _, rfl⟩
  case round =>
    obtain ⟨k, hk, rfl⟩ := hrel
    by_cases hlt : k < l.length
    · obtain ⟨b, off, rfl, hbl, hc', hvc⟩ := hv1.at1 hlt
      rw [show (icells l)[k] = .int .i64 l[k] by simp [icells]] at hvc
      obtain ⟨hr0, hr1⟩ := badK_lt hbad hlt
      obtain ⟨ho1, ho2⟩ := hok k hlt
      have hge : l.getD k 0 = l[k] := by rw [List.getD_eq_getElem?_getD, List.getElem?_eq_getElem hlt, Option.getD_some]
      rw [hge] at ho1 ho2
      have hcu := hsp.cell (i := l[k].toNat) (getD_some (d := false) (by omega))
      rw [ho1] at hcu
      have hvt : Sl W1 (.slice (some ⟨b, off, none⟩) k cap) (icells (l.take k)) (l.take k).length 1 := by
        have := hv1.take (k := k) (by omega)
        rw [Nat.mul_one, icells_take] at this
        rwa [show (l.take k).length = k by rw [List.length_take]; omega]
      have hkc : (k : Int) ≤ (cap : Int) := by have := hv1.cap; omega
      have hnot : decide (l[k] ∈ l.take k) = false := by simpa using ho2
      have HN := hidd hnot
      clear ho1 ho2 hge hok h hv hb1 hnot
      generalize l[k] = y at *
      go_wp2_with (go_at_call 94; refine (contains_any _ _ _ _ hvt).mono ?_; rintro e w' ⟨rfl, rfl⟩; rw [HN.out])
      go_round
      case rel => exact ⟨k + 1, by omega, by go_num⟩
      case measure => simp [intOf]; omega
    · go_wp2_with fail
      go_loopw [39] (fun i wr => ∃ k : Nat, k ≤ l.length ∧ i = .int .i64 k ∧ SpAt wr p r (giv us ((l.take k).map Int.toNat)) ∧ Fr (fun b => b = r) W1 wr) (fun i _ => l.length - (intOf i).toNat)
      case atStart => exact ⟨0, Nat.zero_le _, rfl, by simpa [giv] using hsp, Fr.refl _ _⟩
      case round =>
        obtain ⟨k, hk, rfl, hsp2, hfr⟩ := hrel
        by_cases hlt : k < l.length
        · have hv2 := hv1.fr hfr (fun k' hk' e => hvr (hk'.trans (congrArg some e)))
          obtain ⟨b, off, rfl, hbl, hc', hvc⟩ := hv2.at1 hlt
          rw [show (icells l)[k] = .int .i64 l[k] by simp [icells]] at hvc
          obtain ⟨hr0, hr1⟩ := badK_lt hbad hlt
          have hl2 := giv_len ((l.take k).map Int.toNat) us
          have hhd2 := hsp2.hd
          rw [hl2] at hhd2
          have hcu := hsp2.cell (i := l[k].toNat) (getD_some (d := false) (by omega))
          have hfz := hsp2.row.frozen l[k].toNat
          have hcp := hfr.cell hcell (by simp; omega)
          have hsp3 := hsp2.set l[k].toNat false
          rw [← giv_snoc, ← List.map_singleton (f := Int.toNat), ← List.map_append, ← List.take_succ_eq_append_getElem hlt] at hsp3
          have hlt2 : k + 1 ≤ l.length := hlt
          have hsz := hfr.size
          clear hok h hv hsp hv1 hv2 hcell hhd
          generalize l[k] = y at *
          generalize giv us ((l.take k).map Int.toNat) = us2 at *
          generalize hU3 : giv us ((l.take (k + 1)).map Int.toNat) = us3 at *
          have HU := hidd hU3
          clear hU3
          go_wp2_with fail
          go_roundw
          case rel => exact ⟨k + 1, by omega, by go_num, by rw [HU.out]; exact hsp3, hfr.setCell (.inl rfl) _⟩
          case measure => simp [intOf]; omega
        · obtain rfl : k = l.length := by omega
          rw [List.take_of_length_le (Nat.le_refl _)] at hsp2
          clear h hv hsp hv1 hcell hhd hok
          go_wp2_with fail
          go_ret
          exact ⟨rfl, hsp2, (Fr.ob hb1).trans' hfr (fun _ _ x => x) (fun _ _ x => x)⟩

set_option maxRecDepth 100000 in
set_option maxHeartbeats 2000000 in
theorem give_none (E : Nat → Addr) (p r : Nat) (us : List Bool) (v : Value) (l : List Int) (w : World) (h : SpAt w p r us) (hv : Sl w v (icells l) l.length 1) (hbad : l.any (badK us.length) = false)
    (j : Nat) (hj : j < l.length) (hok : gOk us l j) (hno : ¬ (us.getD (l.getD j 0).toNat false = true ∧ l.getD j 0 ∉ l.take j)) (B : Nat) (G : List Nat) (hE : Env G B w E) (hg : 1 ∈ G) :
    Calls Tryz.prog 68 #[.pointer (some ⟨p, 0, none⟩), v] w fun e w' => e = .returned (erv E 1) ∧ Below w.heap.size w w' := by
  have hmf : ∀ (fn : Fn) (first cap : Array Value) (w : World), (Instr.makeFunc fn first cap).run Tryz.prog w = .ok (.func fn first cap) w := fun _ _ _ _ => rfl
  have hb1 : Below w.heap.size w (w.alloc (.cells #[.pointer (some ⟨p, 0, none⟩)] 104)) := (Below.refl _ _).alloc (Nat.le_refl _) _
  have hcell : (w.alloc (.cells #[.pointer (some ⟨p, 0, none⟩)] 104)).cell? ⟨w.heap.size, 0, none⟩ = some (.pointer (some ⟨p, 0, none⟩)) := by
    rw [World.cell?_alloc_at _ _ _ _ rfl]; rfl
  have hc := (hE.ob hb1).cell _ hg
  unfold erv at *
  have hsp := h.ob hb1 (Nat.le_refl _)
  have hv1 := hv.ob hb1 (Nat.le_refl _)
  obtain ⟨a, cap, rfl, -⟩ := id hv
  have hm := hv.le
  go_enter Tryz.func68, Tryz.ntmps68
  go_wp2_with fail
  generalize hW : w.alloc _ = W1 at *
  have HW := hidd hW
  clear hW
  refine (give_any w.heap.size p r us _ l _ hcell hsp hv1).mono ?_
  rintro e w' ⟨rfl, rfl⟩
  rw [hbad]
  have hhd := hsp.hd
  go_wp2_with fail
  go_loop [15] (fun i => ∃ k : Nat, k ≤ j ∧ i = .int .i64 k) (fun i => l.length - (intOf i).toNat)
  case atStart => exact ⟨0, Nat.zero_le _, rfl⟩
  case round =>
    obtain ⟨k, hk, rfl⟩ := hrel
    have hlt : k < l.length := by omega
    obtain ⟨b, off, rfl, hbl, hc', hvc⟩ := hv1.at1 hlt
    rw [show (icells l)[k] = .int .i64 l[k] by simp [icells]] at hvc
    obtain ⟨hr0, hr1⟩ := badK_lt hbad hlt
    have hge : l.getD k 0 = l[k] := by rw [List.getD_eq_getElem?_getD, List.getElem?_eq_getElem hlt, Option.getD_some]
    have hcu := hsp.cell (i := l[k].toNat) (getD_some (d := false) (by omega))
    have hvt : Sl W1 (.slice (some ⟨b, off, none⟩) k cap) (icells (l.take k)) (l.take k).length 1 := by
      have := hv1.take (k := k) (by omega)
      rw [Nat.mul_one, icells_take] at this
      rwa [show (l.take k).length = k by rw [List.length_take]; omega]
    have hkc : (k : Int) ≤ (cap : Int) := by have := hv1.cap; omega
    by_cases hkj : k < j
    · obtain ⟨ho1, ho2⟩ := hok k hkj
      rw [hge] at ho1 ho2
      rw [ho1] at hcu
      have hnot : decide (l[k] ∈ l.take k) = false := by simpa using ho2
      have HN := hidd hnot
      clear ho1 ho2 hge hok hno h hv hb1 hnot
      generalize l[k] = y at *
      go_wp2_with (go_at_call 94; refine (contains_any _ _ _ _ hvt).mono ?_; rintro e w' ⟨rfl, rfl⟩; rw [HN.out])
      go_round
      case rel => exact ⟨k + 1, by omega, by go_num⟩
      case measure => simp [intOf]; omega
    · obtain rfl : k = j := by omega
      rw [hge] at hno
      by_cases hu : us.getD l[k].toNat false = true
      · have ho2 : l[k] ∈ l.take k := by
          apply Decidable.byContradiction
          exact fun hh => hno ⟨hu, hh⟩
        rw [hu] at hcu
        have hnot : decide (l[k] ∈ l.take k) = true := by simpa using ho2
        have HN := hidd hnot
        clear ho2 hge hok hno h hv hnot hu
        generalize l[k] = y at *
        go_wp2_with (go_at_call 94; refine (contains_any _ _ _ _ hvt).mono ?_; rintro e w' ⟨rfl, rfl⟩; rw [HN.out])
        go_ret
        exact ⟨rfl, hb1⟩
      · have hu' : us.getD l[k].toNat false = false := by simpa using hu
        rw [hu'] at hcu
        clear hge hok hno h hv hu hu' hvt
        generalize l[k] = y at *
        go_wp2_with fail
        go_ret
        exact ⟨rfl, hb1⟩
end Go.Proofs.YtoemahhpheobkaaGreatDoor

namespace Go.Proofs.YtoemahhpheobkaaGreatDoor
open Go.RowKit
@[go_sem] theorem run_eql_slice_nil {P : Program} (w : World) (t e : TypeId) (a : Option Addr) (l c : Nat) (h : P.underlying t = some (.slice e)) : (Go.binOp .eql t (.slice a l c) (.slice none 0 0)).run P w = .ok (.bool a.isNone) w := by
  simp only [Go.binOp]
  simp [Go.run_equal_slice_nil w t e a l c h]

end Go.Proofs.YtoemahhpheobkaaGreatDoor
