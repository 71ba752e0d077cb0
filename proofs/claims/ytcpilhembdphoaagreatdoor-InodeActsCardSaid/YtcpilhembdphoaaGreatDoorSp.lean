/- The contracts of package space. Condition: the receiver is a space that New gave, of at most 512 blocks. -/
import Derived.Test.YtcpilhembdphoaaGreatDoorSpP
import Derived.Test.YtcpilhembdphoaaGreatDoorEnv
namespace Go.Proofs.YtcpilhembdphoaaGreatDoor
open Go.RowKit

/-- Numbers as values. -/
def ints (l : List Nat) : List Value := l.map fun (j : Nat) => Value.int .i64 (j : Int)
theorem ints_len (l : List Nat) : (ints l).length = l.length := by simp [ints]
theorem ints_snoc (l : List Nat) (j : Nat) : ints (l ++ [j]) = ints l ++ [.int .i64 (j : Int)] := by simp [ints]

/-- A space: its struct lies in block p, its list in block r. -/
structure SpAt (w : World) (p r : Nat) (us : List Bool) : Prop where
  head : Blk w p [.slice (some ⟨r, 0, none⟩) us.length us.length] 110
  row : Blk w r (us.map Value.bool) 4
  ne : p ≠ r
  pos : 0 < us.length
  big : us.length ≤ 512
theorem SpAt.drew {w : World} {p r : Nat} {us : List Bool} (h : SpAt w p r us) : SpAt w.drew p r us := ⟨h.head.drew, h.row.drew, h.ne, h.pos, h.big⟩
theorem SpAt.alloc {w : World} {p r : Nat} {us : List Bool} (h : SpAt w p r us) (o : Obj) : SpAt (w.alloc o) p r us := ⟨h.head.alloc o, h.row.alloc o, h.ne, h.pos, h.big⟩
theorem SpAt.fr {w w' : World} {p r : Nat} {us : List Bool} {S : Nat → Prop} (h : SpAt w p r us) (hf : Fr S w w') (hp : ¬ S p) (hr : ¬ S r) : SpAt w' p r us := ⟨h.head.fr hf hp, h.row.fr hf hr, h.ne, h.pos, h.big⟩
theorem SpAt.ob {w w' : World} {p r : Nat} {us : List Bool} {B : Nat} (h : SpAt w p r us) (hf : Below B w w') (hB : w.heap.size ≤ B) : SpAt w' p r us :=
  ⟨h.head.below hf (Nat.lt_of_lt_of_le h.head.lt hB), h.row.below hf (Nat.lt_of_lt_of_le h.row.lt hB), h.ne, h.pos, h.big⟩
theorem SpAt.cell {w : World} {p r : Nat} {us : List Bool} (h : SpAt w p r us) {i : Nat} {b : Bool} (hi : us[i]? = some b) : w.cell? ⟨r, i, none⟩ = some (.bool b) := h.row.cell (by simp [hi])
theorem SpAt.hd {w : World} {p r : Nat} {us : List Bool} (h : SpAt w p r us) : w.cell? ⟨p, 0, none⟩ = some (.slice (some ⟨r, 0, none⟩) us.length us.length) := h.head.cell rfl
theorem SpAt.set {w : World} {p r : Nat} {us : List Bool} (h : SpAt w p r us) (i : Nat) (b : Bool) : SpAt (w.setCell ⟨r, i, none⟩ (.bool b)) p r (us.set i b) :=
  ⟨by simpa using h.head.other (a := ⟨r, i, none⟩) h.ne (.bool b), by simpa [List.map_set] using h.row.set i (.bool b), h.ne, by simpa using h.pos, by simpa using h.big⟩
theorem getD_some {us : List Bool} {i : Nat} (h : i < us.length) {d : Bool} : us[i]? = some (us.getD i d) := by
  simp [List.getD_eq_getElem?_getD, List.getElem?_eq_getElem h]

theorem infoI : (Tryz.prog.info? 3).map (fun i => (i.zero, i.size, i.bytes)) = some (some (.int .i64 0), 1, 8) := by kernel_rfl

set_option maxHeartbeats 1000000 in
theorem used_any (p r : Nat) (us : List Bool) (w : World) (h : SpAt w p r us) : Calls Tryz.prog 71 #[.pointer (some ⟨p, 0, none⟩)] w fun e w' =>
    ∃ a cap, e = .returned (.slice a (usedTo us us.length).length cap) ∧ w'.ownsRow w.heap.size 3 1 (.slice a (usedTo us us.length).length cap) (usedTo us us.length).length (ints (usedTo us us.length)) ∧ Below w.heap.size w w' := by
  obtain ⟨i0, hi, hz0, hz1, hz2⟩ := info_parts infoI
  have h1 := h.hd
  have h5 := h.big
  go_enter Tryz.func71, Tryz.ntmps71
  go_wp2
  go_loopw [3, 11] (fun v i wr => ∃ k : Nat, k ≤ us.length ∧ i = .int .i64 k ∧ wr.ownsRow w.heap.size 3 1 v (usedTo us k).length (ints (usedTo us k)) ∧ Below w.heap.size w wr) (fun _ i _ => us.length - (intOf i).toNat)
  case atStart => exact ⟨0, by omega, rfl, by simpa [usedTo, ints] using World.ownsRow_nil w w.heap.size 3 1, Below.refl _ _⟩
  case round =>
    obtain ⟨k, hk, rfl, hown, hb⟩ := hrel
    have hle := usedTo_le us k
    by_cases hlt : k < us.length
    · have hcell := (h.ob hb (Nat.le_refl _)).cell (getD_some (d := false) hlt)
      cases hu : us.getD k false
      · have H1 := hidd (usedTo_succ_f hu)
        rw [hu] at hcell
        clear hu h
        go_wp2
        go_roundw
        case rel => exact ⟨k+1, by omega, by go_num, by rw [H1.out]; exact hown, hb⟩
        case measure => simp [intOf]; omega
      · have H1 := hidd (usedTo_succ_t hu)
        rw [hu] at hcell
        have hsz := hb.size
        clear hu h
        go_wp2_with (at_builtin; refine wpList_append_own _ rfl _ _ 31 rfl w.heap.size 3 i0 (.int .i64 0) 1 8 Tryz.underlying31 hi hz0 hz1 hz2 rfl (by decide) _ _ _ rfl (hown.alloc _) ⟨wr.heap.size, 0, none⟩ 1 1 [.int .i64 k] rfl rfl ?c1 ?c2 ?c3 ?c4 ?c5 ?_)
        case c1 => exact cell_one_new' _ _ _
        case c2 => simp [Value.oneCell']
        case c3 => unfold maxLen; omega
        case c4 => omega
        case c5 => simp; omega
        intro v' w1 hown' hgrow _
        go_wp2
        go_roundw
        case rel => exact ⟨k+1, by omega, by go_num, by rw [H1.out, ints_snoc, List.length_append]; simpa using hown', (hb.alloc hsz _).grown hgrow (by simp; omega) (fun k hk => (hown.lt k hk).1)⟩
        case measure => simp [intOf]; omega
    · obtain rfl : k = us.length := by omega
      obtain ⟨ad, cap, rfl⟩ := owns_slice hown
      clear h
      go_wp2
      go_ret
      exact ⟨_, _, rfl, hown, hb⟩

set_option maxHeartbeats 1000000 in
theorem free_any (p r : Nat) (us : List Bool) (w : World) (h : SpAt w p r us) : Calls Tryz.prog 51 #[.pointer (some ⟨p, 0, none⟩)] w fun e w' =>
    e = .returned (.int .i64 (nfree us : Nat)) ∧ Below w.heap.size w w' := by
  have hle := usedTo_le us us.length
  have h5 := h.big
  have hle' : (usedTo us us.length).length ≤ 512 := by omega
  have hwr : IntKind.i64.wrap ((us.length : Int) - ((usedTo us us.length).length : Int)) = ((nfree us : Nat) : Int) := by
    rw [i64_in _ (by omega)]; unfold nfree; omega
  go_enter Tryz.func51, Tryz.ntmps51
  go_wp2_with fail
  go_region_held3 (fun w' => w'.cell? ⟨p, 0, none⟩ = some (.slice (some ⟨r, 0, none⟩) us.length us.length) ∧ Below w.heap.size w w')
    (first | exact ⟨h.hd, (Below.refl _ _).drew⟩ | exact ⟨(h.drew.ob hb (Nat.le_refl _)).hd, (Below.refl _ _).drew.trans hb⟩)
    (first | (go_at_call 71; refine (used_any p r us _ h.drew).mono ?_; rintro e w' ⟨ad, cap, rfl, ho, hb⟩))
  generalize (usedTo us us.length).length = m at *
  go_wp2
  go_ret
  exact ⟨rfl, (Below.refl _ _).drew.trans hb⟩

theorem take_neg (E : Nat → Addr) (p : Value) (k : Int) (hk : k < 0) (w : World) (hE : w.cell? ⟨0, 0, none⟩ = some (erv E 0)) :
    Calls Tryz.prog 24 #[p, .int .i64 k] w fun e w' => e = .returned (.tuple #[.slice none 0 0, erv E 0]) ∧ Below w.heap.size w w' := by
  unfold erv at *
  go_enter Tryz.func24, Tryz.ntmps24
  go_wp2_with fail
  go_quiet (fail)
  go_wp2
  go_ret2
  exact ⟨rfl, by first | exact Below.drewN _ _ _ | (repeat (first | exact Below.refl _ _ | apply Below.drew))⟩
end Go.Proofs.YtcpilhembdphoaaGreatDoor
