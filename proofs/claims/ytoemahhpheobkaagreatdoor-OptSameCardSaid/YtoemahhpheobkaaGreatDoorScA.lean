/- Read of a table whose disk holds any texts. Condition: the table is one that New gave; each of its blocks holds 16 bytes. · Plain law of the sum of a text: a text of which one byte is another one has another sum. No condition. · What is read of blocks, in plain words: as it was written, after one bit has turned, after it was written again. No condition. · inode.Table: Disk, Write, All, where blocks may have rotted. Condition: the table is one that New gave. · scrub.Scan and scrub.Mend. Condition: the table is one that New gave, each text of its disk is of a block's size. -/
import Derived.Test.YtoemahhpheobkaaGreatDoorIn6
import Derived.Test.YtoemahhpheobkaaGreatDoorSum
import Derived.Test.YtoemahhpheobkaaGreatDoorBw
import Derived.Test.YtoemahhpheobkaaGreatDoorIn8
import Derived.Test.YtoemahhpheobkaaGreatDoorDk3
import Derived.Test.YtoemahhpheobkaaGreatDoorIter
import Derived.Lib.SlKeysI
import Derived.Test.YtoemahhpheobkaaGreatDoorLaw
namespace Go.Proofs.YtoemahhpheobkaaGreatDoor
open Go.RowKit

/-- The blocks' texts, one behind the other. -/
def catL (ls : List ByteArray) (bl : List Nat) : Nat → List UInt8
  | 0 => []
  | j + 1 => catL ls bl j ++ (ls.getD (bl.getD j 0) ByteArray.empty).data.toList
theorem catL_len (ls : List ByteArray) (bl : List Nat) (h : ∀ b ∈ bl, (ls.getD b ByteArray.empty).size = 16) : ∀ j, j ≤ bl.length → (catL ls bl j).length = 16 * j
  | 0, _ => rfl
  | j + 1, hj => by
    have hg : bl.getD j 0 ∈ bl := by rw [List.getD_eq_getElem?_getD, List.getElem?_eq_getElem (show j < bl.length by omega)]; exact List.getElem_mem _
    rw [catL, List.length_append, catL_len ls bl h j (by omega), ← Lib.size_eq, h _ hg]; omega
theorem cells_cat (ls : List ByteArray) (bl : List Nat) (j : Nat) : Lib.byteCells (catL ls bl (j + 1)) = Lib.byteCells (catL ls bl j) ++ Lib.strCells (ls.getD (bl.getD j 0) ByteArray.empty) := by
  rw [catL, Lib.strCells_eq]
  unfold Lib.byteCells
  rw [List.map_append]
/-- What is read, whether or not it is what was written. -/
def readB (ls : List ByteArray) (x : Ino) : ByteArray := (⟨(catL ls x.bl x.bl.length).toArray⟩ : ByteArray).extract 0 x.data.size

/-- What Read answers. -/
def RgPost (E : Nat → Addr) (ls : List ByteArray) (x : Ino) (w : World) (e : Ending) (w' : World) : Prop := e = .returned (if crc (readB ls x).data.toList = crc x.data.data.toList then .tuple #[.string (readB ls x), .nilIface] else .tuple #[.string ⟨#[]⟩, erv E 3]) ∧ Below w.heap.size w w'

set_option maxRecDepth 100000 in
set_option maxHeartbeats 4000000 in
theorem iread_any {pc : Prop} (B t p r ps rs m N : Nat) (T : Nat → Option Ino) (us : List Bool) (ls : List ByteArray) (k : Nat) (x : Ino) (w : World) (h : TbAt pc w B t p r ps rs m N T us ls) (hk : k ≤ 1000000) (hx : T k = some x) (hs16 : ∀ b ∈ x.bl, (ls.getD b ByteArray.empty).size = 16) (E : Nat → Addr) (G : List Nat) (B0 : Nat) (henv : Env G B0 w E) (hG : 3 ∈ G) :
    Calls Tryz.prog 25 #[.pointer (some ⟨t, 0, none⟩), .int .i64 (k : Int)] w (RgPost E ls x w) := by
  obtain ⟨n, hn, hm⟩ := h.mp
  have hc2 := h.c2
  have hl := hm.look_ok (k := (k : Int)) (by omega)
  rw [show mapOf T (k : Int) = some x.blk by simp [mapOf, hx]] at hl
  simp only [ptrV, Option.map_some, Option.isSome_some] at hl
  have hxa := h.ino k x hx
  have hxo := h.ok k x hx
  obtain ⟨ba, bcap, hbv⟩ := hxa.row.shape
  have hB1 : Below w.heap.size w (w.alloc (.cells #[.pointer none, .slice none 0 0] 116)) := (Below.refl _ _).alloc (Nat.le_refl _) _
  have hz := World.block_lt_of_cell? w _ hc2
  have hblt := hxa.blk.lt
  -- what holds in each later world
  have HT : Hid (∀ W, Below w.heap.size w W → TbAt pc W B t p r ps rs m N T us ls) := hidd (fun W hW => h.ob hW)
  have HX : Hid (∀ W, Below w.heap.size w W → W.cell? ⟨x.blk, 0, none⟩ = some (.int .i64 (x.data.size : Int)) ∧ W.cell? ⟨x.blk, 3, none⟩ = some (.slice ba x.bl.length bcap) ∧ W.cell? ⟨x.blk, 4, none⟩ = some (.int .u32 (crc x.data.data.toList : Nat)) ∧ Sl W (.slice ba x.bl.length bcap) (ints x.bl) x.bl.length 1) := hidd (fun W hW => by
    have hy := (h.ob hW).ino k x hx
    refine ⟨hy.blk.cell rfl, ?_, hy.blk.cell rfl, ?_⟩
    · rw [← hbv]; exact hy.blk.cell rfl
    · rw [← hbv]; exact hy.row.sl)
  have hisb : Lib.IsBuilder 116 5 w.heap.size w.heap.size (Lib.byteCells (catL ls x.bl 0)) (w.alloc (.cells #[.pointer none, .slice none 0 0] 116)) :=
    .inl ⟨Nat.le_refl _, .slice none 0 0, heap_alloc_new w _, World.ownsRow_nil _ _ _ _, by simp [Value.ownBlock]⟩
  obtain ⟨x0, x3, x4, xs⟩ := HX.out _ hB1
  have HLEN := hidd hxo.len
  have HS16 := hidd hs16
  have HE : Hid (∀ W, Below w.heap.size w W → W.cell? ⟨3, 0, none⟩ = some (erv E 3)) := hidd (fun W hW => (henv.ob hW).cell _ hG)
  have HCL : Hid (∀ j, j ≤ x.bl.length → (catL ls x.bl j).length = 16 * j) := hidd (catL_len ls x.bl hs16)
  have HINR := hidd hxo.inr
  have hdsz := hxo.size
  have hbl5 : x.bl.length ≤ 125 := by rw [hxo.len]; exact needN_le _ hxo.size
  obtain ⟨S, hS⟩ : ∃ S : ByteArray, S = ⟨(catL ls x.bl x.bl.length).toArray⟩ := ⟨_, rfl⟩
  have hSs : S.size = 16 * x.bl.length := by rw [Lib.size_eq, hS]; simpa using catL_len ls x.bl hs16 _ (Nat.le_refl _)
  obtain ⟨D, hD⟩ : ∃ D : ByteArray, D = readB ls x := ⟨_, rfl⟩
  have hSx : S.extract 0 x.data.size = D := by rw [hD, readB, hS]
  have hle : x.data.size ≤ S.size := by rw [hSs, hxo.len]; exact needN_hi _
  have hDs : D.size ≤ 2000 := by rw [← hSx]; simp; omega
  have HD := hidd hD
  have HSTR : Hid (∀ W, Lib.IsBuilder 116 5 w.heap.size w.heap.size (Lib.byteCells (catL ls x.bl x.bl.length)) W → w.heap.size ≤ W.heap.size → Calls Tryz.prog 53 #[.pointer (some ⟨w.heap.size, 0, none⟩)] W fun e w' => e = .returned (.string S) ∧ Below w.heap.size W w') := hidd (fun W hi hsz => by
    rw [hS]; exact Tryz.Builder_String_any _ _ _ W hi hsz)
  have HSS := hidd hSs
  have HSX := hidd hSx
  clear hm hn hxo hxa h hS hSs hSx hbv henv hs16 hD
  generalize hbx : x.blk = bx at *
  generalize hbl : x.bl = bl at *
  clear hbx hbl
  go_enter Tryz.func25, Tryz.ntmps25
  go_wp2_with fail
  go_loopw [31] (fun i wr => ∃ j : Nat, j ≤ bl.length ∧ i = .int .i64 (j : Int) ∧ Lib.IsBuilder 116 5 w.heap.size w.heap.size (Lib.byteCells (catL ls bl j)) wr ∧ Below w.heap.size w wr) (fun i _ => bl.length - (intOf i).toNat)
  case atStart => exact ⟨0, Nat.zero_le _, rfl, hisb, hB1⟩
  case round =>
    obtain ⟨j, hj, rfl, hib, hbw⟩ := hrel
    by_cases hlt : j < bl.length
    · obtain ⟨y0, y3, y4, ys⟩ := HX.out _ hbw
      obtain ⟨sb, so, rfl, -, hc, hcell⟩ := ys.at1 hlt
      rw [show (ints bl)[j] = .int .i64 ((bl[j] : Nat) : Int) by simp [ints]] at hcell
      have hk := HINR.out _ (List.getElem_mem hlt)
      have hg : bl.getD j 0 = bl[j] := by rw [List.getD_eq_getElem?_getD, List.getElem?_eq_getElem hlt]; rfl
      have HP := hidd hg
      have HK16 := hidd (HS16.out _ (List.getElem_mem hlt))
      have htb := HT.out _ hbw
      have hc0 := htb.c0
      have q1 : (0 : Int) ≤ (j : Int) := by omega
      have q2 : (j : Int) < (bl.length : Int) := by omega
      have hszw := hbw.size
      generalize bl[j] = kk at *
      clear hg hc y0 y3 y4
      go_wp2_with fail
      refine (read_ok p r _ ls [] kk _ htb.dk hk).mono ?_
      obtain ⟨sv, hsv⟩ : ∃ sv, sv = ls.getD kk ByteArray.empty := ⟨_, rfl⟩
      rw [show rdW [] kk (ls.getD kk ByteArray.empty) = sv from hsv.symm]
      replace HK16 : Hid (sv.size = 16) := by rw [hsv]; exact HK16
      have HSV := hidd hsv
      clear hsv
      rintro e w3 ⟨rfl, hb3⟩
      have hib3 := isb_ob hib hb3
      have hbw3 := hbw.trans (hb3.mono hszw)
      have hsz3 := hbw3.size
      have hl16 : (Lib.byteCells (catL ls bl j)).length = 16 * j := by simpa [Lib.byteCells] using HCL.out j (by omega)
      have HL16 := hidd hl16
      have HPS := HK16
      clear hl16 htb hb3 hib
      go_wp2_with fail
      refine (wstr_any w.heap.size w.heap.size _ (sv) w3 hib3 (by rw [HL16.out, HPS.out]; omega) hsz3).mono ?_
      rintro e w4 ⟨rfl, hb4, hbel4⟩
      go_wp2_with fail
      go_roundw
      case rel =>
        refine ⟨j + 1, by omega, by go_num, .inr ?_, hbw3.trans hbel4⟩
        rw [show Lib.byteCells (catL ls bl (j + 1)) = Lib.byteCells (catL ls bl j) ++ Lib.strCells (sv) by have := cells_cat ls bl j; rw [show bl.getD j 0 = kk from HP.out, ← show sv = ls.getD kk ByteArray.empty from HSV.out] at this; exact this]
        exact hb4
      case measure => simp [intOf]; omega
    · obtain rfl : j = bl.length := by omega
      have hq : ¬ ((bl.length : Int) < (bl.length : Int)) := by omega
      have HC : Hid (∀ W, Below w.heap.size wr W → W.cell? ⟨bx, 0, none⟩ = some (.int .i64 (x.data.size : Int)) ∧ Below w.heap.size w W) := hidd (fun W hW => ⟨(HX.out _ (hbw.trans hW)).1, hbw.trans hW⟩)
      have hstr := HSTR.out wr.drew hib hbw.size
      clear hlt
      go_wp2_with fail
      have hle0 : (0 : Int) ≤ (x.data.size : Int) := by omega
      have hle1 : (x.data.size : Int) ≤ (S.size : Int) := by omega
      have hsx := HSX.out
      have HDZ := hidd hdsz
      clear hdsz hib hisb xs x0 x3 x4 hl
      go_region_held3 (fun W => W.cell? ⟨bx, 0, none⟩ = some (.int .i64 (x.data.size : Int)) ∧ Below w.heap.size w W)
        (first | exact HC.out _ ((Below.refl _ wr).drew) | exact HC.out _ ((Below.refl _ wr).drew.trans hb9))
        (first | (go_at_call 53; refine hstr.mono ?_; rintro e w9 ⟨rfl, hb9⟩))
      go_wp2_with fail
      have hb10 : Below w.heap.size w w9 := hbw.trans (((Below.refl w.heap.size wr).drew).trans hb9)
      obtain ⟨z0, z3, z4, zs⟩ := HX.out w9 hb10
      clear z0 z3 zs
      have k4 : w9.drew.cell? ⟨bx, 4, none⟩ = some (.int .u32 (crc x.data.data.toList : Nat)) := z4
      by_cases hcr : crc D.data.toList = crc x.data.data.toList
      · have hc1 : (((crc D.data.toList : Nat) : Int) != ((crc x.data.data.toList : Nat) : Int)) = false := by simp [hcr]
        have hc2 : (((crc D.data.toList : Nat) : Int) == ((crc x.data.data.toList : Nat) : Int)) = true := by simp [hcr]
        have HCR := hidd hcr
        clear hcr
        go_region_held3 (fun W => W.cell? ⟨bx, 4, none⟩ = some (.int .u32 (crc x.data.data.toList : Nat)) ∧ W = w9.drew)
          (first | exact ⟨k4, rfl⟩)
          (first | (go_at_call 54; refine (sum_any D _ (by unfold maxLen; omega)).mono ?_; rintro e w8 ⟨rfl, rfl⟩))
        go_wp2_with fail
        go_ret2
        refine ⟨?_, hb10.drew⟩
        rw [← HD.out, if_pos HCR.out]
        rfl
      · have hc1 : (((crc D.data.toList : Nat) : Int) != ((crc x.data.data.toList : Nat) : Int)) = true := by simp; omega
        have hc2 : (((crc D.data.toList : Nat) : Int) == ((crc x.data.data.toList : Nat) : Int)) = false := by simp; omega
        have HCR := hidd hcr
        have hes := HE.out w9 hb10
        unfold erv at hes
        have hes1 : w9.drew.cell? ⟨3, 0, none⟩ = some (.iface 249 (.pointer (some (E 3)))) := hes
        have hes2 : w9.drew.drew.cell? ⟨3, 0, none⟩ = some (.iface 249 (.pointer (some (E 3)))) := hes
        clear hcr
        go_region_held3 (fun W => W.cell? ⟨bx, 4, none⟩ = some (.int .u32 (crc x.data.data.toList : Nat)) ∧ W = w9.drew)
          (first | exact ⟨k4, rfl⟩)
          (first | (go_at_call 54; refine (sum_any D _ (by unfold maxLen; omega)).mono ?_; rintro e w8 ⟨rfl, rfl⟩))
        go_wp2_with fail
        go_quiet (fail)
        go_wp2_with fail
        go_ret2
        refine ⟨?_, (hb10.drew).trans (Below.drewN _ _ _)⟩
        rw [← HD.out, if_neg HCR.out]
        rfl
end Go.Proofs.YtoemahhpheobkaaGreatDoor

namespace Go.Proofs.YtoemahhpheobkaaGreatDoor

theorem xor_rc {a b c : Nat} (h : a ^^^ c = b ^^^ c) : a = b := by
  have := congrArg (fun x => x ^^^ c) h
  simpa [Nat.xor_assoc] using this
theorem xor_lc {a b c : Nat} (h : c ^^^ a = c ^^^ b) : a = b := xor_rc (c := c) (by rw [Nat.xor_comm a, Nat.xor_comm b]; exact h)
theorem crcStep_top {c : Nat} (h : c < 4294967296) : (crcStep c).testBit 31 = decide (c % 2 = 1) := by
  unfold crcStep
  rw [Nat.testBit_xor, Nat.testBit_lt_two_pow (show c / 2 < 2 ^ 31 by omega)]
  by_cases hc : c % 2 = 1
  · rw [if_pos hc]; simp [hc]; decide
  · rw [if_neg hc]; simp [hc]
theorem crcStep_inj {c d : Nat} (hc : c < 4294967296) (hd : d < 4294967296) (h : crcStep c = crcStep d) : c = d := by
  have h1 := crcStep_top hc
  rw [h, crcStep_top hd] at h1
  have h2 : c % 2 = 1 ↔ d % 2 = 1 := by
    constructor
    · intro k; rw [decide_eq_true k] at h1; exact of_decide_eq_true h1
    · intro k; rw [decide_eq_true k] at h1; exact of_decide_eq_true h1.symm
  unfold crcStep at h
  have h3 : c / 2 = d / 2 := by
    by_cases k : c % 2 = 1
    · rw [if_pos k, if_pos (h2.1 k)] at h
      exact xor_rc h
    · rw [if_neg k, if_neg (fun q => k (h2.2 q))] at h
      simpa using h
  omega
theorem crcSteps_inj : ∀ (k : Nat) {c d : Nat}, c < 4294967296 → d < 4294967296 → crcSteps k c = crcSteps k d → c = d
  | 0, _, _, _, _, h => h
  | k + 1, _, _, hc, hd, h => crcSteps_inj k hc hd (crcStep_inj (crcSteps_lt hc k) (crcSteps_lt hd k) h)
theorem byte_lt (c : Nat) (b : UInt8) (hc : c < 4294967296) : c ^^^ b.toNat < 4294967296 := Nat.xor_lt_two_pow (n := 32) hc (Nat.lt_trans b.toNat_lt (by decide))
/-- The register behind further bytes. -/
def crcFrom (c : Nat) (l : List UInt8) : Nat := l.foldl (fun c b => crcSteps 8 (c ^^^ b.toNat)) c
theorem crcFrom_inj : ∀ (l : List UInt8) {c d : Nat}, c < 4294967296 → d < 4294967296 → crcFrom c l = crcFrom d l → c = d
  | [], _, _, _, _, h => h
  | b :: l, _, _, hc, hd, h => by
    have := crcFrom_inj l (crcSteps_lt (byte_lt _ b hc) 8) (crcSteps_lt (byte_lt _ b hd) 8) h
    exact xor_rc (crcSteps_inj 8 (byte_lt _ b hc) (byte_lt _ b hd) this)
theorem crcTo_app (p q : List UInt8) : crcTo (p ++ q) = crcFrom (crcTo p) q := by unfold crcTo crcFrom; rw [List.foldl_append]
/-- One byte is another one: another sum. -/
theorem crc_one {p q : List UInt8} {a b : UInt8} (h : crc (p ++ a :: q) = crc (p ++ b :: q)) : a = b := by
  have h1 := xor_rc (show crcTo (p ++ a :: q) ^^^ 4294967295 = crcTo (p ++ b :: q) ^^^ 4294967295 from h)
  rw [crcTo_app, crcTo_app] at h1
  have h2 := crcFrom_inj q (c := crcSteps 8 (crcTo p ^^^ a.toNat)) (d := crcSteps 8 (crcTo p ^^^ b.toNat)) (crcSteps_lt (byte_lt _ a (crcTo_lt p)) 8) (crcSteps_lt (byte_lt _ b (crcTo_lt p)) 8) h1
  have h3 := crcSteps_inj 8 (byte_lt _ a (crcTo_lt p)) (byte_lt _ b (crcTo_lt p)) h2
  exact UInt8.toNat_inj.1 (xor_lc h3)
theorem crc_set {l : List UInt8} {k : Nat} (hk : k < l.length) {b : UInt8} (hb : b ≠ l[k]) : crc (l.set k b) ≠ crc l := fun h => by
  have h1 : l = l.take k ++ l[k] :: l.drop (k + 1) := by rw [← List.drop_eq_getElem_cons hk, List.take_append_drop]
  have h2 : l.set k b = l.take k ++ b :: l.drop (k + 1) := List.set_eq_take_append_cons_drop.trans (if_pos hk)
  rw [h2] at h
  have h3 : crc (l.take k ++ b :: l.drop (k + 1)) = crc (l.take k ++ l[k] :: l.drop (k + 1)) := h.trans (congrArg crc h1)
  exact hb (crc_one h3)
end Go.Proofs.YtoemahhpheobkaaGreatDoor

namespace Go.Proofs.YtoemahhpheobkaaGreatDoor
open Go.RowKit

/-- Each of these blocks holds 16 bytes. -/
def S16 (ls : List ByteArray) (bl : List Nat) : Prop := ∀ b ∈ bl, (ls.getD b ByteArray.empty).size = 16
theorem getD_mem {bl : List Nat} {j : Nat} (h : j < bl.length) : bl.getD j 0 ∈ bl := by rw [List.getD_eq_getElem?_getD, List.getElem?_eq_getElem h]; exact List.getElem_mem _
theorem catL_get {ls : List ByteArray} {bl : List Nat} (h : S16 ls bl) : ∀ j, j ≤ bl.length → ∀ q, q < 16 * j → (catL ls bl j)[q]? = (ls.getD (bl.getD (q / 16) 0) ByteArray.empty).data.toList[q % 16]?
  | 0, _, q, hq => by omega
  | j + 1, hj, q, hq => by
    have hl := catL_len ls bl h j (by omega)
    rw [catL]
    by_cases hlt : q < 16 * j
    · rw [List.getElem?_append_left (by omega)]
      exact catL_get h j (by omega) q hlt
    · rw [List.getElem?_append_right (by omega), hl, show q / 16 = j by omega, show q - 16 * j = q % 16 by omega]
theorem catL_congr {ls ls' : List ByteArray} {bl : List Nat} (h : ∀ b ∈ bl, ls'.getD b ByteArray.empty = ls.getD b ByteArray.empty) : ∀ j, j ≤ bl.length → catL ls' bl j = catL ls bl j
  | 0, _ => rfl
  | j + 1, hj => by rw [catL, catL, catL_congr h j (by omega), h _ (getD_mem (by omega))]
theorem readB_congr {ls ls' : List ByteArray} {x : Ino} (h : ∀ b ∈ x.bl, ls'.getD b ByteArray.empty = ls.getD b ByteArray.empty) : readB ls' x = readB ls x := by
  unfold readB
  rw [catL_congr h _ (Nat.le_refl _)]
theorem readB_list (ls : List ByteArray) (x : Ino) : (readB ls x).data.toList = (catL ls x.bl x.bl.length).take x.data.size := by
  unfold readB
  rw [Lib.extract_from_zero]
theorem readB_pcs {ls : List ByteArray} {x : Ino} (hl : x.bl.length = needN x.data.size) (h : ∀ i, i < x.bl.length → ls.getD (x.bl.getD i 0) ByteArray.empty = pcB x.data i) : readB ls x = x.data := Go.WideShapes.bytes_inj (by
  have hc : ∀ j, j ≤ x.bl.length → catL ls x.bl j = pcs x.data.data.toList j := fun j => by
    induction j with
    | zero => exact fun _ => rfl
    | succ j ih => exact fun hj => by rw [catL, pcs, ih (by omega), h j (by omega), pcB_list]
  rw [readB_list, hc _ (Nat.le_refl _), hl, Lib.size_eq]
  exact pcs_need _)
theorem s16_pcs {ls : List ByteArray} {x : Ino} (h : ∀ i, i < x.bl.length → ls.getD (x.bl.getD i 0) ByteArray.empty = pcB x.data i) : S16 ls x.bl := fun b hb => by
  obtain ⟨i, hi, rfl⟩ := List.getElem_of_mem hb
  have := h i hi
  rw [List.getD_eq_getElem?_getD (l := x.bl), List.getElem?_eq_getElem hi] at this
  rw [show ls.getD x.bl[i] ByteArray.empty = pcB x.data i from this, pcB_size]
/-- One bit of a block has turned: what is read has another sum. -/
theorem readB_turn {ls : List ByteArray} {x : Ino} {at_ : Nat} (h16 : S16 ls x.bl) (hl : x.bl.length = needN x.data.size) (hn : x.bl.Nodup) (hr : ∀ b ∈ x.bl, b < ls.length) (ha : at_ < 8 * x.data.size) :
    crc (readB (ls.set (x.bl.getD (at_ / 128) 0) (turn (ls.getD (x.bl.getD (at_ / 128) 0) ByteArray.empty) (at_ % 128))) x).data.toList ≠ crc (readB ls x).data.toList := by
  have hhi := needN_hi x.data.size
  obtain ⟨i, hi⟩ : ∃ i, at_ / 128 = i := ⟨_, rfl⟩
  obtain ⟨bit, hbit⟩ : ∃ bit, at_ % 128 = bit := ⟨_, rfl⟩
  rw [hi, hbit]
  have hil : i < x.bl.length := by omega
  obtain ⟨g, hg⟩ : ∃ g, x.bl.getD i 0 = g := ⟨_, rfl⟩
  have hgb : g = x.bl[i] := by rw [← hg, List.getD_eq_getElem?_getD, List.getElem?_eq_getElem hil]; rfl
  have hgm : g ∈ x.bl := hgb ▸ List.getElem_mem hil
  rw [hg]
  obtain ⟨ls', hls'⟩ : ∃ ls', ls.set g (turn (ls.getD g ByteArray.empty) bit) = ls' := ⟨_, rfl⟩
  rw [hls']
  have hset : ∀ b, ls'.getD b ByteArray.empty = if b = g then turn (ls.getD g ByteArray.empty) bit else ls.getD b ByteArray.empty := fun b => by
    rw [← hls']
    by_cases e : b = g
    · subst e
      rw [if_pos rfl, List.getD_eq_getElem?_getD, List.getElem?_set_self (hr _ hgm)]
      rfl
    · rw [if_neg e, List.getD_eq_getElem?_getD, List.getElem?_set_ne (fun q => e q.symm), ← List.getD_eq_getElem?_getD]
  have h16' : S16 ls' x.bl := fun b hb => by
    rw [hset b]
    by_cases e : b = g
    · subst e; rw [if_pos rfl, turn_size]; exact h16 _ hb
    · rw [if_neg e]; exact h16 _ hb
  rw [readB_list, readB_list]
  obtain ⟨X, hX⟩ : ∃ X, (catL ls x.bl x.bl.length).take x.data.size = X := ⟨_, rfl⟩
  obtain ⟨Y, hY⟩ : ∃ Y, (catL ls' x.bl x.bl.length).take x.data.size = Y := ⟨_, rfl⟩
  rw [hX, hY]
  have hXl : X.length = x.data.size := by rw [← hX, List.length_take, catL_len ls x.bl h16 _ (Nat.le_refl _)]; omega
  have hk : at_ / 8 < X.length := by omega
  have hgs := h16 _ hgm
  have hYX : Y = X.set (at_ / 8) (X[at_ / 8] ^^^ UInt8.ofNat (2 ^ (bit % 8))) := by
    refine List.ext_getElem? (fun q => ?_)
    rw [List.getElem?_set]
    have hgetX : ∀ q, q < x.data.size → X[q]? = (ls.getD (x.bl.getD (q / 16) 0) ByteArray.empty).data.toList[q % 16]? := fun q hq => by
      rw [← hX, List.getElem?_take, if_pos hq]; exact catL_get h16 _ (Nat.le_refl _) q (by omega)
    have hgetY : ∀ q, q < x.data.size → Y[q]? = (ls'.getD (x.bl.getD (q / 16) 0) ByteArray.empty).data.toList[q % 16]? := fun q hq => by
      rw [← hY, List.getElem?_take, if_pos hq]; exact catL_get h16' _ (Nat.le_refl _) q (by omega)
    by_cases hq : q < x.data.size
    · rw [hgetY q hq, hset]
      by_cases e : x.bl.getD (q / 16) 0 = g
      · have hqi : q / 16 = i := by
          have hq16 : q / 16 < x.bl.length := by omega
          have e2 : x.bl[q / 16] = x.bl[i] := by
            rw [← hgb, ← e, List.getD_eq_getElem?_getD, List.getElem?_eq_getElem hq16]; rfl
          exact (List.getElem_inj hn).1 e2
        rw [if_pos e]
        unfold turn
        simp only [List.getElem?_modify]
        have hqq := hgetX q hq
        rw [e] at hqq
        by_cases e3 : at_ / 8 = q
        · subst e3
          rw [if_pos rfl, if_pos hk]
          have e4 : bit / 8 = at_ / 8 % 16 := by omega
          rw [← hqq, List.getElem?_eq_getElem hk]
          simp only [Option.map_eq_map, Option.map_some, if_pos e4]
        · rw [if_neg e3, ← hqq]
          have e4 : ¬ bit / 8 = q % 16 := by omega
          simp only [if_neg e4, Option.map_eq_map, Option.map_id']
      · have hne : ¬ at_ / 8 = q := by
          rintro rfl
          have : at_ / 8 / 16 = i := by omega
          rw [this] at e
          exact e hg
        rw [if_neg e, if_neg hne]
        exact (hgetX q hq).symm
    · have h1 : Y.length ≤ x.data.size := by rw [← hY]; exact List.length_take_le _ _
      rw [List.getElem?_eq_none (by omega), if_neg (by omega), List.getElem?_eq_none (by omega)]
  rw [hYX]
  refine crc_set hk (fun h => ?_)
  have h1 : UInt8.ofNat (2 ^ (bit % 8)) = 0 := by
    have := congrArg (fun c => X[at_ / 8] ^^^ c) h
    simpa [← UInt8.xor_assoc] using this
  have h2 : bit % 8 < 8 := Nat.mod_lt _ (by omega)
  revert h1
  generalize bit % 8 = z at h2
  have : z = 0 ∨ z = 1 ∨ z = 2 ∨ z = 3 ∨ z = 4 ∨ z = 5 ∨ z = 6 ∨ z = 7 := by omega
  rcases this with rfl | rfl | rfl | rfl | rfl | rfl | rfl | rfl <;> decide
end Go.Proofs.YtoemahhpheobkaaGreatDoor

namespace Go.Proofs.YtoemahhpheobkaaGreatDoor
open Go.RowKit

/-- The same table where the disk's texts are others. -/
theorem TbAt.disk {pc : Prop} {w w' : World} {B t p r ps rs m N : Nat} {T : Nat → Option Ino} {us : List Bool} {ls ls' : List ByteArray} (h : TbAt pc w B t p r ps rs m N T us ls) (hf : Fr (fun b => b = p ∨ b = r) w w') (hd : DkAt w' p r (.slice none 0 0) ls' []) (hl : ls'.length = ls.length) :
    TbAt False w' B t p r ps rs m N T us ls' where
  tab := h.tab.fr hf (by rintro (e | e); exact h.tabN (.inl e); exact h.tabN (.inr (.inl e)))
  dk := hd
  sp := h.sp.fr hf (by rintro (e | e); exact blk_ne h.sp.head h.dk.head (by decide) e; exact blk_ne h.sp.head h.dk.row (by decide) e) (by rintro (e | e); exact blk_ne h.sp.row h.dk.head (by decide) e; exact blk_ne h.sp.row h.dk.row (by decide) e)
  mp := by
    obtain ⟨n, hn, hm⟩ := h.mp
    exact ⟨n, hn, hm.fr hf (by rintro (e | e); exact hm.ne_blk h.dk.head e; exact hm.ne_blk h.dk.row e)⟩
  ino := fun k x hx => (h.ino k x hx).fr hf (by rintro (e | e); exact blk_ne (h.ino k x hx).blk h.dk.head (by decide) e; exact blk_ne (h.ino k x hx).blk h.dk.row (by decide) e)
    (fun g hg => by rintro (e | e); exact own_ne (h.ino k x hx).row h.dk.head (by decide) (e ▸ hg); exact own_ne (h.ino k x hx).row h.dk.row (by decide) (e ▸ hg))
  ok := fun k x hx => { h.ok k x hx with inr := fun b hb => by rw [hl]; exact (h.ok k x hx).inr b hb, pcs := fun f => f.elim }
  inj := h.inj
  dis := h.dis
  usd := h.usd
  len := by rw [hl]; exact h.len
  fin := h.fin
  base := h.base
  bases := h.bases
theorem TbAt.weak {pc : Prop} {w : World} {B t p r ps rs m N : Nat} {T : Nat → Option Ino} {us : List Bool} {ls : List ByteArray} (h : TbAt pc w B t p r ps rs m N T us ls) : TbAt False w B t p r ps rs m N T us ls := h.disk (Fr.refl _ _) h.dk rfl

/-- The keys of a map from ints, in any order: each once, those that are there. -/
theorem MapIs.keys {w : World} {m n : Nat} {f : Int → Option Nat} (h : MapIs w m n f) : ∃ D : DataW Unit, w.ownsMap Tryz.prog 3 ptrElem m n D ∧ (intKeys D).Nodup ∧ (∀ x ∈ intKeys D, -9223372036854775808 ≤ x ∧ x ≤ 9223372036854775807) ∧ (∀ x, -9223372036854775808 ≤ x ∧ x ≤ 9223372036854775807 → (x ∈ intKeys D ↔ (f x).isSome = true)) ∧ Maps.size D ≤ n ∧ (intKeys D).length ≤ n := by
  obtain ⟨D, hD, hf⟩ := h
  have hwf := intKeys_wf hD Tryz.underlying3
  obtain ⟨es, hD1, hpw, _⟩ := hD.entries (Maps.int_keyed Tryz.underlying3)
  obtain ⟨es', hD2, hk⟩ := hD.keysOf
  obtain rfl : es = es' := by rw [hD1] at hD2; simpa using hD2
  have hks : ∀ p ∈ es, ∃ x, p.1 = .int .i64 x := fun p hp => by obtain ⟨v, hv⟩ := hk p hp; obtain ⟨x, _, hx, _⟩ := Maps.keyOf_i64 Tryz.underlying3 hv; exact ⟨x, hx⟩
  refine ⟨D, hD, ?_, fun x hx => ?_, fun x hx => ?_, hD.size_le, ?_⟩
  · subst hD1
    show (List.map (fun p : Lit × DataW Unit => Go.intOf p.1) es).Nodup
    refine List.pairwise_map.2 (hpw.imp_of_mem fun {p q} hp' hq' hne e => hne ?_)
    obtain ⟨a, ha⟩ := hks p hp'
    obtain ⟨b, hb⟩ := hks q hq'
    rw [ha, hb] at e ⊢
    exact congrArg _ e
  · have := hwf x hx
    simp [Lit.wf, IntKind.min, IntKind.max, IntKind.signed, IntKind.bits] at this
    omega
  · rw [← has_eq_of (hf x hx)]
    subst hD1
    rw [Maps.has_eq, List.any_eq_true]
    show x ∈ es.map (fun p => Go.intOf p.1) ↔ _
    rw [List.mem_map]
    constructor
    · rintro ⟨p, hp, rfl⟩
      obtain ⟨a, ha⟩ := hks p hp
      exact ⟨p, hp, by rw [ha]; simp [Lit.sameKey, Go.intOf]⟩
    · rintro ⟨p, hp, he⟩
      obtain ⟨a, ha⟩ := hks p hp
      rw [ha] at he
      exact ⟨p, hp, by rw [ha]; simpa [Lit.sameKey, Go.intOf] using he⟩
  · have hs := hD.size_le
    subst hD1
    simpa [intKeys, Maps.size] using hs

/-- The numbers of a table's inodes, ascending. -/
def KeysOf (T : Nat → Option Ino) (kl : List Nat) : Prop := kl.Pairwise (· < ·) ∧ ∀ k, k ∈ kl ↔ (T k).isSome = true
theorem KeysOf.one {T : Nat → Option Ino} {a b : List Nat} (h : KeysOf T a) (k : KeysOf T b) : a = b := by
  have hm : ∀ x, x ∈ a ↔ x ∈ b := fun x => by rw [h.2, k.2]
  have ha : a.Nodup := h.1.imp fun q => Nat.ne_of_lt q
  have hb : b.Nodup := k.1.imp fun q => Nat.ne_of_lt q
  exact List.Perm.eq_of_pairwise (le := fun x y : Nat => x < y) (fun x y _ _ h1 h2 => absurd h1 (by omega)) h.1 k.1 ((List.perm_ext_iff_of_nodup ha hb).2 hm)
/-- What All gives. -/
def AlP (T : Nat → Option Ino) (w : World) (e : Ending) (w' : World) : Prop := ∃ (kl : List Nat) (a : Option Addr) (cap : Nat), KeysOf T kl ∧ kl.length ≤ 1000000 ∧ e = .returned (.slice a kl.length cap) ∧ Sl w' (.slice a kl.length cap) (ints kl) kl.length 1 ∧ Below w.heap.size w w'
theorem keysi_call (m : Nat) (W : World) : Calls Tryz.prog 45 #[.map (some m)] W fun e w' => e = .returned (.func (.func 78) #[] #[.pointer (some ⟨W.heap.size, 0, none⟩)]) ∧ w' = W.alloc (.cells #[.map (some m)] 101) :=
  callsIn_wide.1 (Tryz.maps_Keys_45 (some m) W)
theorem sortedi_call (m n : Nat) (f : Int → Option Nat) (w : World) (h : MapIs w m n f) (hn : n ≤ 1000000) :
    Calls Tryz.prog 37 #[.func (.func 78) #[] #[.pointer (some ⟨w.heap.size, 0, none⟩)]] (w.alloc (.cells #[.map (some m)] 101)) fun e w' => ∃ (v : Value) (zs : List Int), e = .returned v ∧ zs.Pairwise (· < ·) ∧
      (∀ x ∈ zs, -9223372036854775808 ≤ x ∧ x ≤ 9223372036854775807) ∧ (∀ x, -9223372036854775808 ≤ x ∧ x ≤ 9223372036854775807 → (x ∈ zs ↔ (f x).isSome = true)) ∧ zs.length ≤ n ∧ Sl w' v (icells zs) zs.length 1 ∧ Below w.heap.size w w' := by
  obtain ⟨D, hD, hnd, hrg, hks, hsz, hlen⟩ := h.keys
  refine (callsIn_wide.1 (Tryz.slices_Sorted_keys_37_45 m n D _ w hD (by unfold maxLen; omega) (by omega))).mono ?_
  rintro e w' ⟨v, ss, rfl, hp, hrow, hnil, hb⟩
  have tr : ∀ a b c : Int, decide (a ≤ b) = true → decide (b ≤ c) = true → decide (a ≤ c) = true := fun a b c h1 h2 => by simp only [decide_eq_true_eq] at *; omega
  have tot : ∀ a b : Int, (decide (a ≤ b) || decide (b ≤ a)) = true := fun a b => by simp only [Bool.or_eq_true, decide_eq_true_eq]; omega
  have hpm := List.mergeSort_perm ss (fun x y => decide (x ≤ y))
  have hnd2 : (ss.mergeSort (fun x y => decide (x ≤ y))).Nodup := hpm.nodup_iff.2 (hp.nodup_iff.2 hnd)
  have hpw := List.pairwise_mergeSort (le := fun x y : Int => decide (x ≤ y)) tr tot ss
  refine ⟨v, ss.mergeSort (fun x y => decide (x ≤ y)), rfl, ?_, fun x hx => hrg x (hp.mem_iff.1 (hpm.mem_iff.1 hx)), fun x hx => ?_, by rw [List.length_mergeSort, hp.length_eq]; exact hlen, ?_, ((Below.refl _ _).alloc (Nat.le_refl _) _).trans (hb.mono (by simp))⟩
  · refine (hpw.and hnd2).imp ?_
    rintro a b ⟨h1, h2⟩
    simp only [decide_eq_true_eq] at h1
    omega
  · rw [hpm.mem_iff, hp.mem_iff, hks x hx]
  · have := Sl.of_owns hrow
    rw [List.length_mergeSort]
    exact this
set_option maxRecDepth 100000 in
set_option maxHeartbeats 4000000 in
theorem all_any {pc : Prop} (B t p r ps rs m N : Nat) (T : Nat → Option Ino) (us : List Bool) (ls : List ByteArray) (w : World) (h : TbAt pc w B t p r ps rs m N T us ls) (hN : N ≤ 1000000) :
    Calls Tryz.prog 18 #[.pointer (some ⟨t, 0, none⟩)] w (AlP T w) := by
  obtain ⟨n, hn, hm⟩ := h.mp
  have hc2 := h.c2
  obtain ⟨K, hK, hfin⟩ := h.fin
  have HSO := hidd (sortedi_call m n (mapOf T) w hm (by omega))
  have HF := hidd hfin
  clear h hm hfin
  go_enter Tryz.func18, Tryz.ntmps18
  go_wp2_with fail
  refine (keysi_call m _).mono ?_
  rintro e w1 ⟨rfl, rfl⟩
  go_wp2_with fail
  refine HSO.out.mono ?_
  rintro e w2 ⟨v, zs, rfl, hpw, hrg, hmem, hzl, hsl, hb⟩
  have hnn : ∀ x ∈ zs, 0 ≤ x := fun x hx => by
    have h1 := (hmem x (hrg x hx)).1 hx
    by_cases h0 : 0 ≤ x
    · exact h0
    · simp [mapOf, h0] at h1
  have hzs : zs = (zs.map Int.toNat).map fun (j : Nat) => (j : Int) := by
    rw [List.map_map]
    refine Eq.trans (List.map_id zs).symm (List.map_congr_left (fun x hx => ?_))
    have := hnn x hx
    simp only [Function.comp_apply, id_eq]
    omega
  have hP : AlP T w (.returned v) w2 := by
    obtain ⟨a, cap, hv, -⟩ := id hsl
    refine ⟨zs.map Int.toNat, a, cap, ⟨?_, fun k => ?_⟩, by rw [List.length_map]; omega, by rw [List.length_map, hv], ?_, hb⟩
    · refine List.pairwise_map.2 (hpw.imp_of_mem fun {x y} hx hy hxy => ?_)
      have := hnn x hx
      omega
    · rw [List.mem_map]
      constructor
      · rintro ⟨x, hx, rfl⟩
        have h1 := (hmem x (hrg x hx)).1 hx
        simpa [mapOf, hnn x hx] using h1
      · intro hk
        have hkK : k < K := by
          by_cases hlt : k < K
          · exact hlt
          · rw [HF.out k (by omega)] at hk; cases hk
        refine ⟨(k : Int), (hmem _ (by omega)).2 ?_, by simp⟩
        simpa [mapOf] using hk
    · rw [List.length_map, ← hv, ints_icells, ← hzs]
      exact hsl
  have HP := hidd hP
  clear hP hsl hb hmem hrg hpw hzs HSO HF hnn
  go_wp2_with fail
  go_ret
  exact HP.out
end Go.Proofs.YtoemahhpheobkaaGreatDoor

namespace Go.Proofs.YtoemahhpheobkaaGreatDoor
open Go.RowKit

theorem below_step {a b c : World} (h : Below a.heap.size a b) (k : Below b.heap.size b c) : Below a.heap.size a c := h.trans (k.mono h.size)
theorem below_dn (w : World) (n : Nat) : Below w.heap.size w (w.drewN n) := Below.drewN _ _ _
/-- All blocks hold 16 bytes. -/
theorem a16_start (n : Nat) : Sz (List.replicate n (zb 16)) [] := ⟨fun i h => by simp [zb, Lib.size_eq], fun i h => by simp at h⟩
theorem Sz.put {ls : List ByteArray} (h : Sz ls []) (b : Nat) {s : ByteArray} (hs : s.size = 16) : Sz (ls.set b s) [] := ⟨fun i hi => by
  rw [List.getElem_set]
  split
  · exact hs
  · exact h.l i (by simpa using hi), h.w⟩
theorem Sz.lsN {ls : List ByteArray} (h : Sz ls []) (bl : List Nat) (d : ByteArray) : ∀ j, Sz (lsN ls bl d j) []
  | 0 => h
  | j + 1 => (Sz.lsN h bl d j).put _ (pcB_size d j)
theorem Sz.at {ls : List ByteArray} (h : Sz ls []) {b : Nat} (hb : b < ls.length) : (ls.getD b ByteArray.empty).size = 16 := by
  rw [List.getD_eq_getElem?_getD, List.getElem?_eq_getElem hb]
  exact h.l b hb
theorem TbAt.s16 {pc : Prop} {w : World} {B t p r ps rs m N : Nat} {T : Nat → Option Ino} {us : List Bool} {ls : List ByteArray} (h : TbAt pc w B t p r ps rs m N T us ls) (hz : Sz ls []) {k : Nat} {x : Ino} (hx : T k = some x) : S16 ls x.bl := fun b hb => hz.at ((h.ok k x hx).inr b hb)

end Go.Proofs.YtoemahhpheobkaaGreatDoor
