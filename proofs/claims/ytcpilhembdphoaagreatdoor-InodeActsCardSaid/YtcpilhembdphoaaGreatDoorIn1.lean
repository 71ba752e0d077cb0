/- The inode table's first contracts: Len of a disk, New. Condition: the disk is one that New gave. -/
import Derived.Test.YtcpilhembdphoaaGreatDoorDkN
import Derived.Test.YtcpilhembdphoaaGreatDoorInC
import Derived.Maps.OwnSet
namespace Go.Proofs.YtcpilhembdphoaaGreatDoor
open Go.RowKit

theorem dlen_any (p r : Nat) (v : Value) (ls : List ByteArray) (ws : List (Nat × ByteArray)) (w : World) (h : DkAt w p r v ls ws) :
    Calls Tryz.prog 44 #[.pointer (some ⟨p, 0, none⟩)] w fun e w' => e = .returned (.int .i64 (ls.length : Int)) ∧ w = w' := by
  have h1 := h.hd
  clear h
  go_enter Tryz.func44, Tryz.ntmps44
  go_wp2
  go_ret
  exact ⟨rfl, rfl⟩

/-- The result of New: the table's block, the space, an empty map. -/
def InPost (n p : Nat) (w : World) (e : Ending) (w' : World) : Prop := ∃ t ps rs m, e = .returned (.tuple #[.pointer (some ⟨t, 0, none⟩), .nilIface]) ∧ Blk w' t [.pointer (some ⟨p, 0, none⟩), .pointer (some ⟨ps, 0, none⟩), .map (some m)] 68 ∧
  SpAt w' ps rs (List.replicate n false) ∧ w'.heap[m]? = some (.map #[] 0) ∧ w.heap.size ≤ ps ∧ w.heap.size ≤ rs ∧ w.heap.size ≤ m ∧ w.heap.size ≤ t ∧ m ≠ t ∧ m ≠ ps ∧ m ≠ rs ∧ t ≠ ps ∧ t ≠ rs ∧ Below w.heap.size w w'

set_option maxRecDepth 100000 in
theorem inew_ok (p r : Nat) (v : Value) (ls : List ByteArray) (ws : List (Nat × ByteArray)) (w : World) (h : DkAt w p r v ls ws) (h1 : 1 ≤ ls.length) (h2 : ls.length ≤ 512) :
    Calls Tryz.prog 19 #[.pointer (some ⟨p, 0, none⟩)] w (InPost ls.length p w) := by
  go_enter Tryz.func19, Tryz.ntmps19
  go_wp2_with fail
  refine (dlen_any p r v ls ws _ h).mono ?_
  rintro e w' ⟨rfl, rfl⟩
  go_wp2_with fail
  refine (spnew_ok ls.length _ h1 h2).mono ?_
  rintro e w1 ⟨ps, rs, rfl, hs, g1, g2, hb⟩
  go_wp2_with fail
  have hmk : (Sem.run Tryz.prog (Instr.makeMap 66 none) w1) = .ok (.map (some w1.heap.size)) (w1.alloc (.map #[] 0)) := rfl
  rw [hmk]
  go_wp2_with fail
  go_ret2
  have hlt := hs.head.lt
  have hlr := hs.row.lt
  refine ⟨w1.heap.size + 1, ps, rs, w1.heap.size, rfl, ?_, ((hs.alloc _).alloc _), ?_, g1, g2, hb.size, by have := hb.size; omega, by omega, by omega, by omega, by omega, by omega, ?_⟩
  · have := Blk.new (w1.alloc (.map #[] 0)) [.pointer (some ⟨p, 0, none⟩), .pointer (some ⟨ps, 0, none⟩), .map (some w1.heap.size)] 68
    simpa using this
  · exact (Below.heap_alloc _ _ _ (by simp)).trans (heap_alloc_new w1 _)
  · exact (hb.alloc (by have := hb.size; omega) _).alloc (by have := hb.size; simp; omega) _

/-- Free: what the space says. -/
theorem ifree_any (t p ps rs m : Nat) (us : List Bool) (w : World) (h : Blk w t [.pointer (some ⟨p, 0, none⟩), .pointer (some ⟨ps, 0, none⟩), .map (some m)] 68) (hs : SpAt w ps rs us) :
    Calls Tryz.prog 37 #[.pointer (some ⟨t, 0, none⟩)] w fun e w' => e = .returned (.int .i64 (nfree us : Nat)) ∧ Below w.heap.size w w' := by
  have h1 := h.cell (i := 1) rfl
  clear h
  go_enter Tryz.func37, Tryz.ntmps37
  go_wp2_with fail
  refine (free_any ps rs us _ hs).mono ?_
  rintro e w' ⟨rfl, hb⟩
  go_wp2_with fail
  go_ret
  exact ⟨rfl, hb⟩
end Go.Proofs.YtcpilhembdphoaaGreatDoor
