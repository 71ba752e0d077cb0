/- Read. Condition: the table is one that New gave. -/
import Derived.Test.YtcdbocbiephpiaaGreatDoorIn5
import Derived.Test.YtcdbocbiephpiaaGreatDoorBd
import Derived.Test.YtcdbocbiephpiaaGreatDoorShelf
namespace Go.Proofs.YtcdbocbiephpiaaGreatDoor
open Go.RowKit

theorem cells_pcs (d : ByteArray) (j : Nat) : Lib.byteCells (pcs d.data.toList (j + 1)) = Lib.byteCells (pcs d.data.toList j) ++ Lib.strCells (pcB d j) := by
  rw [pcs, Lib.strCells_eq, pcB_list]
  unfold Lib.byteCells
  rw [List.map_append]

theorem bat_ob {T e : TypeId} {B b : Nat} {p : Value} {bs : List Value} {w w' : World} (h : Lib.BuilderAt T e B b p bs w) (hf : Below w.heap.size w w') : Lib.BuilderAt T e B b p bs w' := by
  have hlt := h.lt
  obtain ⟨hB, v, hb, ho, hn⟩ := h
  exact ⟨hB, v, (hf.block b hlt).trans hb, (Fr.ob (S := fun _ => False) hf).owns ho (fun _ _ x => x), hn⟩
theorem isb_ob {T e : TypeId} {B b : Nat} {bs : List Value} {w w' : World} (h : Lib.IsBuilder T e B b bs w) (hf : Below w.heap.size w w') : Lib.IsBuilder T e B b bs w' := by
  rcases h with h | h
  · exact .inl (bat_ob h hf)
  · exact .inr (bat_ob h hf)

/-- What Read answers. -/
def RdPost (x : Ino) (w : World) (e : Ending) (w' : World) : Prop := e = .returned (.tuple #[.string x.data, .nilIface]) ∧ Below w.heap.size w w'

set_option maxRecDepth 100000 in
set_option maxHeartbeats 4000000 in
theorem iread_ok {pc : Prop} (B t p r ps rs m N : Nat) (T : Nat → Option Ino) (us : List Bool) (ls : List ByteArray) (k : Nat) (x : Ino) (w : World) (h : TbAt pc w B t p r ps rs m N T us ls) (hk : k ≤ 1000000) (hx : T k = some x) (hpc : pc) :
    Calls Tryz.prog 32 #[.pointer (some ⟨t, 0, none⟩), .int .i64 (k : Int)] w (RdPost x w) := by
  obtain ⟨n, hn, hm⟩ := h.mp
  have hc2 := h.c2
  have hl := hm.look_ok (k := (k : Int)) (by omega)
  rw [show mapOf T (k : Int) = some x.blk by simp [mapOf, hx]] at hl
  simp only [ptrV, Option.map_some, Option.isSome_some] at hl
  have hxa := h.ino k x hx
  have hxo := h.ok k x hx
  obtain ⟨ba, bcap, hbv⟩ := hxa.row.shape
  have hB1 : Below w.heap.size w (w.alloc (.cells #[.pointer none, .slice none 0 0] 137)) := (Below.refl _ _).alloc (Nat.le_refl _) _
  have hz := World.block_lt_of_cell? w _ hc2
  have hblt := hxa.blk.lt
  -- what holds in each later world
  have HT : Hid (∀ W, Below w.heap.size w W → TbAt pc W B t p r ps rs m N T us ls) := hidd (fun W hW => h.ob hW)
  have HX : Hid (∀ W, Below w.heap.size w W → W.cell? ⟨x.blk, 0, none⟩ = some (.int .i64 (x.data.size : Int)) ∧ W.cell? ⟨x.blk, 3, none⟩ = some (.slice ba x.bl.length bcap) ∧ W.cell? ⟨x.blk, 4, none⟩ = some (.int .u32 (crc x.data.data.toList : Nat)) ∧ Sl W (.slice ba x.bl.length bcap) (ints x.bl) x.bl.length 1) := hidd (fun W hW => by
    have hy := (h.ob hW).ino k x hx
    refine ⟨hy.blk.cell rfl, ?_, hy.blk.cell rfl, ?_⟩
    · rw [← hbv]; exact hy.blk.cell rfl
    · rw [← hbv]; exact hy.row.sl)
  have hisb : Lib.IsBuilder 137 5 w.heap.size w.heap.size (Lib.byteCells (pcs x.data.data.toList 0)) (w.alloc (.cells #[.pointer none, .slice none 0 0] 137)) :=
    .inl ⟨Nat.le_refl _, .slice none 0 0, heap_alloc_new w _, World.ownsRow_nil _ _ _ _, by simp [Value.ownBlock]⟩
  obtain ⟨x0, x3, x4, xs⟩ := HX.out _ hB1
  have HLEN := hidd hxo.len
  have HPC := hidd (hxo.pcs hpc)
  have HINR := hidd hxo.inr
  have hdsz := hxo.size
  have hbl5 : x.bl.length ≤ 125 := by rw [hxo.len]; exact needN_le _ hxo.size
  obtain ⟨S, hS⟩ : ∃ S : ByteArray, S = ⟨(pcs x.data.data.toList x.bl.length).toArray⟩ := ⟨_, rfl⟩
  have hSs : S.size = 16 * x.bl.length := by rw [Lib.size_eq, hS]; simp [pcs_len]
  have hSx : S.extract 0 x.data.size = x.data := Go.WideShapes.bytes_inj (by
    rw [Lib.extract_from_zero, hS]
    have := pcs_need x.data.data.toList
    rw [← Lib.size_eq, ← hxo.len] at this
    simpa using this)
  have hle : x.data.size ≤ S.size := by rw [hSs, hxo.len]; exact needN_hi _
  have HSTR : Hid (∀ W, Lib.IsBuilder 137 5 w.heap.size w.heap.size (Lib.byteCells (pcs x.data.data.toList x.bl.length)) W → w.heap.size ≤ W.heap.size → Calls Tryz.prog 62 #[.pointer (some ⟨w.heap.size, 0, none⟩)] W fun e w' => e = .returned (.string S) ∧ Below w.heap.size W w') := hidd (fun W hi hsz => by
    rw [hS]; exact Tryz.Builder_String_any _ _ _ W hi hsz)
  have HSS := hidd hSs
  have HSX := hidd hSx
  clear hm hn hxo hxa h hS hSs hSx hbv
  generalize hbx : x.blk = bx at *
  generalize hbl : x.bl = bl at *
  clear hbx hbl
  go_enter Tryz.func32, Tryz.ntmps32
  go_wp2_with fail
  go_loopw [31] (fun i wr => ∃ j : Nat, j ≤ bl.length ∧ i = .int .i64 (j : Int) ∧ Lib.IsBuilder 137 5 w.heap.size w.heap.size (Lib.byteCells (pcs x.data.data.toList j)) wr ∧ Below w.heap.size w wr) (fun i _ => bl.length - (intOf i).toNat)
  case atStart => exact ⟨0, Nat.zero_le _, rfl, hisb, hB1⟩
  case round =>
    obtain ⟨j, hj, rfl, hib, hbw⟩ := hrel
    by_cases hlt : j < bl.length
    · obtain ⟨y0, y3, y4, ys⟩ := HX.out _ hbw
      obtain ⟨sb, so, rfl, -, hc, hcell⟩ := ys.at1 hlt
      rw [show (ints bl)[j] = .int .i64 ((bl[j] : Nat) : Int) by simp [ints]] at hcell
      have hk := HINR.out _ (List.getElem_mem hlt)
      have hg : bl.getD j 0 = bl[j] := by rw [List.getD_eq_getElem?_getD, List.getElem?_eq_getElem hlt]; rfl
      have HP := hidd (HPC.out j hlt)
      rw [hg] at HP
      have htb := HT.out _ hbw
      have hc0 := htb.c0
      have q1 : (0 : Int) ≤ (j : Int) := by omega
      have q2 : (j : Int) < (bl.length : Int) := by omega
      have hszw := hbw.size
      generalize bl[j] = kk at *
      clear hg hc y0 y3 y4
      go_wp2_with fail
      refine (read_ok p r _ ls [] kk _ htb.dk hk).mono ?_
      rw [show rdW [] kk (ls.getD kk ByteArray.empty) = pcB x.data j from HP.out]
      rintro e w3 ⟨rfl, hb3⟩
      have hib3 := isb_ob hib hb3
      have hbw3 := hbw.trans (hb3.mono hszw)
      have hsz3 := hbw3.size
      have hl16 : (Lib.byteCells (pcs x.data.data.toList j)).length = 16 * j := by simp [Lib.byteCells, pcs_len]
      have HL16 := hidd hl16
      have HPS := hidd (pcB_size x.data j)
      clear hl16 htb hb3 hib
      go_wp2_with fail
      refine (wstr_any w.heap.size w.heap.size _ (pcB x.data j) w3 hib3 (by rw [HL16.out, HPS.out]; omega) hsz3).mono ?_
      rintro e w4 ⟨rfl, hb4, hbel4⟩
      go_wp2_with fail
      go_roundw
      case rel =>
        refine ⟨j + 1, by omega, by go_num, .inr ?_, hbw3.trans hbel4⟩
        rw [show Lib.byteCells (pcs x.data.data.toList (j + 1)) = Lib.byteCells (pcs x.data.data.toList j) ++ Lib.strCells (pcB x.data j) from cells_pcs x.data j]
        exact hb4
      case measure => simp [intOf]; omega
    · obtain rfl : j = bl.length := by omega
      have hq : ¬ ((bl.length : Int) < (bl.length : Int)) := by omega
      have HC : Hid (∀ W, Below w.heap.size wr W → W.cell? ⟨bx, 0, none⟩ = some (.int .i64 (x.data.size : Int)) ∧ Below w.heap.size w W) := hidd (fun W hW => ⟨(HX.out _ (hbw.trans hW)).1, hbw.trans hW⟩)
      have hstr := HSTR.out wr.drew hib hbw.size
      clear hlt
      go_wp2_with fail
      have hle0 : (0 : Int) ≤ (x.data.size : Int) := by omega
      have hle1 : (x.data.size : Int) ≤ (S.size : Int) := by omega
      have hsx := HSX.out
      have HDZ := hidd hdsz
      clear hdsz hib hisb xs x0 x3 x4 hl
      go_region_held3 (fun W => W.cell? ⟨bx, 0, none⟩ = some (.int .i64 (x.data.size : Int)) ∧ Below w.heap.size w W)
        (first | exact HC.out _ ((Below.refl _ wr).drew) | exact HC.out _ ((Below.refl _ wr).drew.trans hb9))
        (first | (go_at_call 62; refine hstr.mono ?_; rintro e w9 ⟨rfl, hb9⟩))
      go_wp2_with fail
      have hb10 : Below w.heap.size w w9 := hbw.trans (((Below.refl w.heap.size wr).drew).trans hb9)
      obtain ⟨z0, z3, z4, zs⟩ := HX.out w9 hb10
      clear z0 z3 zs
      have hcr : ((crc x.data.data.toList : Nat) : Int) = ((crc x.data.data.toList : Nat) : Int) := rfl
      have k4 : w9.drew.cell? ⟨bx, 4, none⟩ = some (.int .u32 (crc x.data.data.toList : Nat)) := z4
      go_region_held3 (fun W => W.cell? ⟨bx, 4, none⟩ = some (.int .u32 (crc x.data.data.toList : Nat)) ∧ W = w9.drew)
        (first | exact ⟨k4, rfl⟩)
        (first | (go_at_call 58; refine (sum_any x.data _ (by have := HDZ.out; unfold maxLen; omega)).mono ?_; rintro e w8 ⟨rfl, rfl⟩))
      go_wp2_with fail
      go_ret2
      exact ⟨rfl, hb10.drew⟩
end Go.Proofs.YtcdbocbiephpiaaGreatDoor
