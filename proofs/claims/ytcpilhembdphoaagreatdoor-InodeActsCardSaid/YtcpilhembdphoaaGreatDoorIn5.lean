/- Link, Unlink, Read of a number that is none; Stat. Condition: the table is one that New gave. -/
import Derived.Test.YtcpilhembdphoaaGreatDoorIn4
import Derived.Laws.ResultCell
namespace Go.Proofs.YtcpilhembdphoaaGreatDoor
open Go.RowKit

set_option maxRecDepth 100000 in
theorem clone_ow {F : Nat → Prop} (v : Value) (l : List Nat) (w : World) (h : Ow F w 3 1 v l.length (ints l)) (h5 : l.length ≤ 512) :
    Calls Tryz.prog 28 #[v] w fun e w' => ∃ a cap, e = .returned (.slice a l.length cap) ∧ Ow (fun g => w.heap.size ≤ g) w' 3 1 (.slice a l.length cap) l.length (ints l) ∧ Below w.heap.size w w' := by
  obtain ⟨i0, hi, hz0, hz1, hz2⟩ := info_parts infoI
  have h1 : ∀ u ∈ ints l, u.oneCell' = true := by
    intro u hu; obtain ⟨x, _, rfl⟩ := List.mem_map.1 hu; rfl
  have hsl := h.sl
  have hs := Src.sl (P := Tryz.prog) (tx := 31) Tryz.underlying31 (hsl.ob ((Below.refl w.heap.size w).alloc (Nat.le_refl _) (.cells #[] 3)) (Nat.le_refl _)) h1
  have hown : Ow (fun g => w.heap.size ≤ g) (w.alloc (.cells #[] 3)) 3 1 (.slice (some ⟨w.heap.size, 0, none⟩) 0 0) 0 [] :=
    ⟨by simp, .inr ⟨w.heap.size, 0, 0, #[], rfl, Nat.le_refl _, heap_alloc_new w _, Nat.le_refl _, by unfold maxLen; omega, by simp, by simp⟩⟩
  rcases h.2 with ⟨rfl, h0⟩ | ⟨g, off, cap, cur, rfl, -⟩
  · have hl0 : l = [] := List.eq_nil_of_length_eq_zero h0
    subst hl0
    clear hs hsl h hown h0
    go_enter Tryz.func28, Tryz.ntmps28
    go_wp2_with fail
    go_ret
    exact ⟨none, 0, rfl, Ow.nil _ _ _ _, Below.refl _ _⟩
  · clear hsl h
    go_enter Tryz.func28, Tryz.ntmps28
    go_wp2_with (at_builtin; refine wpList_append_ow _ rfl _ _ 31 31 rfl (fun g => w.heap.size ≤ g) ?cF 3 i0 (.int .i64 0) 1 8 Tryz.underlying31 hi hz0 hz1 hz2 rfl (by decide) _ _ _ rfl hown _ _ _ rfl hs ?c3 ?c4 ?_)
    case cF => intro g hg; simp at hg; omega
    case c3 => unfold maxLen; omega
    case c4 => omega
    intro v' w1 hown' hgrow
    obtain ⟨a', cap', rfl⟩ := hown'.shape
    go_wp2
    go_ret
    refine ⟨a', cap', by simp, by simpa using hown', ((Below.refl _ _).alloc (Nat.le_refl _) _).grown hgrow (by simp) (fun k hk => ?_)⟩
    simp [Value.ownBlock] at hk; omega

section
variable {pc : Prop} (B t p r ps rs m N : Nat) (T : Nat → Option Ino) (us : List Bool) (ls : List ByteArray) (k : Int) (w : World) (E : Nat → Addr)
/-- No such number. -/
theorem link_none {pc : Prop} (h : TbAt pc w B t p r ps rs m N T us ls) (hk : -9223372036854775808 ≤ k ∧ k ≤ 9223372036854775807) (hx : mapOf T k = none) (hE : w.cell? ⟨1, 0, none⟩ = some (erv E 1)) :
    Calls Tryz.prog 39 #[.pointer (some ⟨t, 0, none⟩), .int .i64 k] w fun e w' => e = .returned (erv E 1) ∧ w = w' := by
  obtain ⟨n, hn, hm⟩ := h.mp
  have hc2 := h.c2
  have hl := hm.look_ok hk
  rw [hx] at hl
  simp only [ptrV, Option.map_none, Option.isSome_none] at hl
  unfold erv at *
  clear h hm hn hx
  go_enter Tryz.func39, Tryz.ntmps39
  go_wp2_with fail
  go_ret
  exact ⟨rfl, rfl⟩
theorem unlink_none {pc : Prop} (h : TbAt pc w B t p r ps rs m N T us ls) (hk : -9223372036854775808 ≤ k ∧ k ≤ 9223372036854775807) (hx : mapOf T k = none) (hE : w.cell? ⟨1, 0, none⟩ = some (erv E 1)) :
    Calls Tryz.prog 41 #[.pointer (some ⟨t, 0, none⟩), .int .i64 k] w fun e w' => e = .returned (erv E 1) ∧ w = w' := by
  obtain ⟨n, hn, hm⟩ := h.mp
  have hc2 := h.c2
  have hl := hm.look_ok hk
  rw [hx] at hl
  simp only [ptrV, Option.map_none, Option.isSome_none] at hl
  unfold erv at *
  clear h hm hn hx
  go_enter Tryz.func41, Tryz.ntmps41
  go_wp2_with fail
  go_ret
  exact ⟨rfl, rfl⟩
theorem read_none {pc : Prop} (h : TbAt pc w B t p r ps rs m N T us ls) (hk : -9223372036854775808 ≤ k ∧ k ≤ 9223372036854775807) (hx : mapOf T k = none) (hE : w.cell? ⟨1, 0, none⟩ = some (erv E 1)) :
    Calls Tryz.prog 13 #[.pointer (some ⟨t, 0, none⟩), .int .i64 k] w fun e w' => e = .returned (.tuple #[.string ⟨#[]⟩, erv E 1]) ∧ Below w.heap.size w w' := by
  obtain ⟨n, hn, hm⟩ := h.mp
  have hc2 := h.c2
  have hl := hm.look_ok hk
  rw [hx] at hl
  simp only [ptrV, Option.map_none, Option.isSome_none] at hl
  unfold erv at *
  clear h hm hn hx
  go_enter Tryz.func13, Tryz.ntmps13
  go_wp2_with fail
  have hE2 : w.drew.cell? ⟨1, 0, none⟩ = some (.iface 202 (.pointer (some (E 1)))) := hE
  go_quiet (fail)
  go_wp2_with fail
  go_ret2
  exact ⟨rfl, Below.drewN _ _ _⟩
end

/-- What Stat answers. -/
def StPost (x : Ino) (w : World) (e : Ending) (w' : World) : Prop :=
  ∃ a cap, e = .returned (.tuple #[.agg #[.int .i64 (x.data.size : Int), .int .i64 (x.links : Int), .bool x.exec, .slice a x.bl.length cap, .int .u32 (crc x.data.data.toList : Nat)], .bool true]) ∧ Ow (fun g => w.heap.size ≤ g) w' 3 1 (.slice a x.bl.length cap) x.bl.length (ints x.bl) ∧ Below w.heap.size w w'

set_option maxRecDepth 100000 in
set_option maxHeartbeats 2000000 in
theorem stat_ok {pc : Prop} (B t p r ps rs m N : Nat) (T : Nat → Option Ino) (us : List Bool) (ls : List ByteArray) (k : Nat) (x : Ino) (w : World) (h : TbAt pc w B t p r ps rs m N T us ls) (hk : k ≤ 1000000) (hx : T k = some x) :
    Calls Tryz.prog 8 #[.pointer (some ⟨t, 0, none⟩), .int .i64 (k : Int)] w (StPost x w) := by
  obtain ⟨z, hz⟩ : ∃ z, z = w.heap.size := ⟨_, rfl⟩
  have hB1 : Below z w (w.alloc (.cells #[.int .i64 0, .int .i64 0, .bool false, .slice none 0 0, .int .u32 0] 34)) := (Below.refl _ _).alloc (Nat.le_of_eq hz) _
  have h1 := h.ob (hz ▸ hB1)
  have hblk1 := Blk.new w [.int .i64 0, .int .i64 0, .bool false, .slice none 0 0, .int .u32 0] 34
  obtain ⟨n, hn, hm⟩ := h1.mp
  have hc2 := h1.c2
  have hl := hm.look_ok (k := (k : Int)) (by omega)
  rw [show mapOf T (k : Int) = some x.blk by simp [mapOf, hx]] at hl
  simp only [ptrV, Option.map_some, Option.isSome_some] at hl
  have hxa := h1.ino k x hx
  have hxo := h1.ok k x hx
  have hxb := hxa.blk
  have hlen : x.bl.length ≤ 512 := by rw [hxo.len]; have := needN_le _ hxo.size; omega
  unfold inoCells at hxb
  obtain ⟨ba, bcap, hbv⟩ := hxa.row.shape
  have hrow := hxa.row
  rw [hbv] at hxb hrow
  clear hm hxo hxa h1 h hn
  generalize hblx : x.bl = bl at *
  have HBL := hidd hblx
  clear hblx
  generalize x.blk = bx at *
  have b0 := hxb.cell (i := 0) rfl
  have b1 := hxb.cell (i := 1) rfl
  have b2 := hxb.cell (i := 2) rfl
  have b3 := hxb.cell (i := 3) rfl
  have b4 := hxb.cell (i := 4) rfl
  obtain ⟨w1, hw1⟩ : ∃ w1, w1 = w.alloc (.cells #[.int .i64 0, .int .i64 0, .bool false, .slice none 0 0, .int .u32 0] 34) := ⟨_, rfl⟩
  have hsz : w1.heap.size = w.heap.size + 1 := by rw [hw1]; simp
  have b3' := (hxb.alloc (.cells #[.int .i64 (x.data.size : Int), .int .i64 (x.links : Int), .bool x.exec, .slice ba bl.length bcap, .int .u32 (crc x.data.data.toList : Nat)] 34)).cell (i := 3) rfl
  have hq := Blk.new (w.alloc (.cells #[.int .i64 0, .int .i64 0, .bool false, .slice none 0 0, .int .u32 0] 34)) [.int .i64 (x.data.size : Int), .int .i64 (x.links : Int), .bool x.exec, .slice ba bl.length bcap, .int .u32 (crc x.data.data.toList : Nat)] 34
  have hq0 := hblk1.alloc (.cells #[.int .i64 (x.data.size : Int), .int .i64 (x.links : Int), .bool x.exec, .slice ba bl.length bcap, .int .u32 (crc x.data.data.toList : Nat)] 34)
  rw [← hw1, hsz] at hq
  rw [hw1] at hq
  have HB := hidd (hB1.alloc (by simp; omega) (.cells #[.int .i64 (x.data.size : Int), .int .i64 (x.links : Int), .bool x.exec, .slice ba bl.length bcap, .int .u32 (crc x.data.data.toList : Nat)] 34))
  have HZ := hidd hz
  clear hblk1 hxb hsz hw1 hB1
  go_enter Tryz.func8, Tryz.ntmps8
  go_wp2_with fail
  refine (clone_ow _ bl _ (hrow.alloc _) hlen).mono ?_
  rintro e w2 ⟨a, cap, rfl, ho2, hb2⟩
  have hq2 := hq.below hb2 hq.lt
  have hq02 := hq0.below hb2 hq0.lt
  have HB2 := hidd (HB.out.trans (hb2.mono (by have := HZ.out; simp; omega)))
  have HO2 : Hid (Ow (fun g => w.heap.size + 2 ≤ g) w2 3 1 (.slice a bl.length cap) bl.length (ints bl)) := hidd (ho2.mono (fun g hg => by simp at hg; omega))
  clear hb2 hq0 hq b0 b1 b2 b3 b4 b3' hl hc2 hrow ho2 HB
  generalize hq0e : w.heap.size = q0 at *
  have HQ := hidd hq0e
  clear hq0e
  have hf3 := hq2.frozen 3
  have hq3 := hq2.set 3 (.slice a bl.length cap)
  have hq03 := hq02.other (a := ⟨q0 + 1, 3, none⟩) (by simp) (.slice a bl.length cap)
  have c3 := hq2.cell (i := 3) rfl
  have HO3 : Hid (Ow (fun g => q0 + 2 ≤ g) (w2.setCell ⟨q0 + 1, 3, none⟩ (.slice a bl.length cap)) 3 1 (.slice a bl.length cap) bl.length (ints bl)) := hidd (HO2.out.set (a := ⟨q0 + 1, 3, none⟩) (by simp) _)
  have HB3 := hidd (HB2.out.setCell (p := ⟨q0 + 1, 3, none⟩) (by simp; have := HZ.out; omega) (.slice a bl.length cap))
  generalize hw3 : w2.setCell ⟨q0 + 1, 3, none⟩ (.slice a bl.length cap) = w3 at *
  have d0 := hq3.cell (i := 0) rfl
  have d1 := hq3.cell (i := 1) rfl
  have d2 := hq3.cell (i := 2) rfl
  have d3 := hq3.cell (i := 3) rfl
  have d4 := hq3.cell (i := 4) rfl
  have s0 := hq03
  have e0 := s0.cell (i := 0) rfl
  have f0 := s0.frozen 0
  have s1 := s0.set 0 (.int .i64 (x.data.size : Int))
  have e1 := s1.cell (i := 1) rfl
  have f1 := s1.frozen 1
  have s2 := s1.set 1 (.int .i64 (x.links : Int))
  have e2 := s2.cell (i := 2) rfl
  have f2 := s2.frozen 2
  have s3 := s2.set 2 (.bool x.exec)
  have e3 := s3.cell (i := 3) rfl
  have f3 := s3.frozen 3
  have s4 := s3.set 3 (.slice a bl.length cap)
  have e4 := s4.cell (i := 4) rfl
  have f4 := s4.frozen 4
  have s5 := s4.set 4 (.int .u32 (crc x.data.data.toList : Nat))
  have r0 := s5.cell (i := 0) rfl
  have r1 := s5.cell (i := 1) rfl
  have r2 := s5.cell (i := 2) rfl
  have r3 := s5.cell (i := 3) rfl
  have r4 := s5.cell (i := 4) rfl
  go_wp2_with fail
  refine bodyPost_ret (v := .tuple #[.agg #[.int .i64 (x.data.size : Int), .int .i64 (x.links : Int), .bool x.exec, .slice a bl.length cap, .int .u32 (crc x.data.data.toList : Nat)], .bool true]) ?_ rfl ?_
  · rw [results_cell_tmp rfl]
    go_simp
  · unfold StPost
    rw [HBL.out]
    refine ⟨a, cap, rfl, ?_, ?_⟩
    · refine (((((HO3.out.set (a := ⟨q0, 0, none⟩) (by simp) _).set (a := ⟨q0, 1, none⟩) (by simp) _).set (a := ⟨q0, 2, none⟩) (by simp) _).set (a := ⟨q0, 3, none⟩) (by simp) _).set (a := ⟨q0, 4, none⟩) (by simp) _).mono (fun g hg => by rw [HQ.out]; omega)
    · rw [show w.heap.size = z from HQ.out.trans HZ.out.symm]
      exact ((((HB3.out.setCell (p := ⟨q0, 0, none⟩) (Nat.le_of_eq HZ.out) _).setCell (p := ⟨q0, 1, none⟩) (Nat.le_of_eq HZ.out) _).setCell (p := ⟨q0, 2, none⟩) (Nat.le_of_eq HZ.out) _).setCell (p := ⟨q0, 3, none⟩) (Nat.le_of_eq HZ.out) _).setCell (p := ⟨q0, 4, none⟩) (Nat.le_of_eq HZ.out) _
end Go.Proofs.YtcpilhembdphoaaGreatDoor
