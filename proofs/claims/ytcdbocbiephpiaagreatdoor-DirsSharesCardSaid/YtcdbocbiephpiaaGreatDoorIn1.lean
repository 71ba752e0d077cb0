/- slices.Clone of ints: the contract for a slice that is not empty. · The inode table's first contracts: Len of a disk, New. Condition: the disk is one that New gave. -/
import Derived.Test.YtcdbocbiephpiaaGreatDoorSpC
import Derived.Test.YtcdbocbiephpiaaGreatDoorDkN
import Derived.Maps.OwnSet
namespace Go.Proofs.YtcdbocbiephpiaaGreatDoor
open Go.RowKit

set_option maxRecDepth 100000 in
theorem clone_ints (v : Value) (us : List Int) (w : World) (h : Sl w v (icells us) us.length 1) (h0 : 0 < us.length) (h5 : us.length ≤ 512) :
    Calls Tryz.prog 45 #[v] w fun e w' => ∃ a cap, e = .returned (.slice a us.length cap) ∧ Ow (fun g => w.heap.size ≤ g) w' 3 1 (.slice a us.length cap) us.length (icells us) ∧ Below w.heap.size w w' := by
  obtain ⟨i0, hi, hz0, hz1, hz2⟩ := info_parts infoI
  have h1 : ∀ u ∈ icells us, u.oneCell' = true := by
    intro u hu; obtain ⟨x, _, rfl⟩ := List.mem_map.1 hu; rfl
  obtain ⟨a, cap, rfl, hl, hn, hm, h3⟩ := id h
  obtain ⟨b, off, rfl, hbl, hcells⟩ := h3.resolve_left (by omega)
  have hs := Src.sl (P := Tryz.prog) (tx := 47) Tryz.underlying47 (h.ob ((Below.refl w.heap.size w).alloc (Nat.le_refl _) (.cells #[] 3)) (Nat.le_refl _)) h1
  have hown : Ow (fun g => w.heap.size ≤ g) (w.alloc (.cells #[] 3)) 3 1 (.slice (some ⟨w.heap.size, 0, none⟩) 0 0) 0 [] :=
    ⟨by simp, .inr ⟨w.heap.size, 0, 0, #[], rfl, Nat.le_refl _, heap_alloc_new w _, Nat.le_refl _, by unfold maxLen; omega, by simp, by simp⟩⟩
  go_enter Tryz.func45, Tryz.ntmps45
  go_wp2_with (at_builtin; refine wpList_append_ow _ rfl _ _ 47 47 rfl (fun g => w.heap.size ≤ g) ?cF 3 i0 (.int .i64 0) 1 8 Tryz.underlying47 hi hz0 hz1 hz2 rfl (by decide) _ _ _ rfl hown _ _ _ rfl hs ?c3 ?c4 ?_)
  case cF => intro g hg; simp at hg; omega
  case c3 => unfold maxLen; omega
  case c4 => omega
  intro v' w1 hown' hgrow
  obtain ⟨a', cap', rfl⟩ := hown'.shape
  go_wp2
  go_ret
  refine ⟨a', cap', by simp, by simpa using hown', ((Below.refl _ _).alloc (Nat.le_refl _) _).grown hgrow (by simp) (fun k hk => ?_)⟩
  simp [Value.ownBlock] at hk; omega

end Go.Proofs.YtcdbocbiephpiaaGreatDoor

namespace Go.Proofs.YtcdbocbiephpiaaGreatDoor
open Go.RowKit

theorem dlen_any (p r : Nat) (v : Value) (ls : List ByteArray) (ws : List (Nat × ByteArray)) (w : World) (h : DkAt w p r v ls ws) :
    Calls Tryz.prog 78 #[.pointer (some ⟨p, 0, none⟩)] w fun e w' => e = .returned (.int .i64 (ls.length : Int)) ∧ w = w' := by
  have h1 := h.hd
  clear h
  go_enter Tryz.func78, Tryz.ntmps78
  go_wp2
  go_ret
  exact ⟨rfl, rfl⟩

/-- The result of New: the table's block, the space, an empty map. -/
def InPost (n p : Nat) (w : World) (e : Ending) (w' : World) : Prop := ∃ t ps rs m, e = .returned (.tuple #[.pointer (some ⟨t, 0, none⟩), .nilIface]) ∧ Blk w' t [.pointer (some ⟨p, 0, none⟩), .pointer (some ⟨ps, 0, none⟩), .map (some m)] 109 ∧
  SpAt w' ps rs (List.replicate n false) ∧ w'.heap[m]? = some (.map #[] 0) ∧ w.heap.size ≤ ps ∧ w.heap.size ≤ rs ∧ w.heap.size ≤ m ∧ w.heap.size ≤ t ∧ m ≠ t ∧ m ≠ ps ∧ m ≠ rs ∧ t ≠ ps ∧ t ≠ rs ∧ Below w.heap.size w w'

set_option maxRecDepth 100000 in
theorem inew_ok (p r : Nat) (v : Value) (ls : List ByteArray) (ws : List (Nat × ByteArray)) (w : World) (h : DkAt w p r v ls ws) (h1 : 1 ≤ ls.length) (h2 : ls.length ≤ 512) :
    Calls Tryz.prog 48 #[.pointer (some ⟨p, 0, none⟩)] w (InPost ls.length p w) := by
  go_enter Tryz.func48, Tryz.ntmps48
  go_wp2_with fail
  refine (dlen_any p r v ls ws _ h).mono ?_
  rintro e w' ⟨rfl, rfl⟩
  go_wp2_with fail
  refine (spnew_ok ls.length _ h1 h2).mono ?_
  rintro e w1 ⟨ps, rs, rfl, hs, g1, g2, hb⟩
  go_wp2_with fail
  have hmk : (Sem.run Tryz.prog (Instr.makeMap 104 none) w1) = .ok (.map (some w1.heap.size)) (w1.alloc (.map #[] 0)) := rfl
  rw [hmk]
  go_wp2_with fail
  go_ret2
  have hlt := hs.head.lt
  have hlr := hs.row.lt
  refine ⟨w1.heap.size + 1, ps, rs, w1.heap.size, rfl, ?_, ((hs.alloc _).alloc _), ?_, g1, g2, hb.size, by have := hb.size; omega, by omega, by omega, by omega, by omega, by omega, ?_⟩
  · have := Blk.new (w1.alloc (.map #[] 0)) [.pointer (some ⟨p, 0, none⟩), .pointer (some ⟨ps, 0, none⟩), .map (some w1.heap.size)] 109
    simpa using this
  · exact (Below.heap_alloc _ _ _ (by simp)).trans (heap_alloc_new w1 _)
  · exact (hb.alloc (by have := hb.size; omega) _).alloc (by have := hb.size; simp; omega) _

/-- Free: what the space says. -/
theorem ifree_any (t p ps rs m : Nat) (us : List Bool) (w : World) (h : Blk w t [.pointer (some ⟨p, 0, none⟩), .pointer (some ⟨ps, 0, none⟩), .map (some m)] 109) (hs : SpAt w ps rs us) :
    Calls Tryz.prog 27 #[.pointer (some ⟨t, 0, none⟩)] w fun e w' => e = .returned (.int .i64 (nfree us : Nat)) ∧ Below w.heap.size w w' := by
  have h1 := h.cell (i := 1) rfl
  clear h
  go_enter Tryz.func27, Tryz.ntmps27
  go_wp2_with fail
  refine (free_any ps rs us _ hs).mono ?_
  rintro e w' ⟨rfl, hb⟩
  go_wp2_with fail
  go_ret
  exact ⟨rfl, hb⟩
end Go.Proofs.YtcdbocbiephpiaaGreatDoor
