/- scrub.Scan and scrub.Mend. Condition: the table is one that New gave, each text of its disk is of a block's size. -/
import Derived.Test.YtcpilhembdphoaaGreatDoorSc1
import Derived.Test.YtcpilhembdphoaaGreatDoorLaw
namespace Go.Proofs.YtcpilhembdphoaaGreatDoor
open Go.RowKit

theorem below_step {a b c : World} (h : Below a.heap.size a b) (k : Below b.heap.size b c) : Below a.heap.size a c := h.trans (k.mono h.size)
theorem below_dn (w : World) (n : Nat) : Below w.heap.size w (w.drewN n) := Below.drewN _ _ _
/-- All blocks hold 16 bytes. -/
theorem a16_start (n : Nat) : Sz (List.replicate n (zb 16)) [] := ⟨fun i h => by simp [zb, Lib.size_eq], fun i h => by simp at h⟩
theorem Sz.put {ls : List ByteArray} (h : Sz ls []) (b : Nat) {s : ByteArray} (hs : s.size = 16) : Sz (ls.set b s) [] := ⟨fun i hi => by
  rw [List.getElem_set]
  split
  · exact hs
  · exact h.l i (by simpa using hi), h.w⟩
theorem Sz.lsN {ls : List ByteArray} (h : Sz ls []) (bl : List Nat) (d : ByteArray) : ∀ j, Sz (lsN ls bl d j) []
  | 0 => h
  | j + 1 => (Sz.lsN h bl d j).put _ (pcB_size d j)
theorem Sz.at {ls : List ByteArray} (h : Sz ls []) {b : Nat} (hb : b < ls.length) : (ls.getD b ByteArray.empty).size = 16 := by
  rw [List.getD_eq_getElem?_getD, List.getElem?_eq_getElem hb]
  exact h.l b hb
theorem TbAt.s16 {pc : Prop} {w : World} {B t p r ps rs m N : Nat} {T : Nat → Option Ino} {us : List Bool} {ls : List ByteArray} (h : TbAt pc w B t p r ps rs m N T us ls) (hz : Sz ls []) {k : Nat} {x : Ino} (hx : T k = some x) : S16 ls x.bl := fun b hb => hz.at ((h.ok k x hx).inr b hb)

/-- Does this inode not hold what was written? -/
def badI (ls : List ByteArray) (T : Nat → Option Ino) (k : Nat) : Bool := match T k with | some x => !decide (crc (readB ls x).data.toList = crc x.data.data.toList) | none => false
theorem badI_some {ls : List ByteArray} {T : Nat → Option Ino} {k : Nat} {x : Ino} (h : T k = some x) : badI ls T k = !decide (crc (readB ls x).data.toList = crc x.data.data.toList) := by unfold badI; rw [h]
theorem badI_ok {ls : List ByteArray} {T : Nat → Option Ino} {k : Nat} {x : Ino} (h : T k = some x) (hr : readB ls x = x.data) : badI ls T k = false := by rw [badI_some h, hr]; simp
/-- What Scan gives. -/
def ScP (T : Nat → Option Ino) (ls : List ByteArray) (w : World) (e : Ending) (w' : World) : Prop :=
  ∃ (kl out : List Nat) (a : Option Addr) (cap : Nat), KeysOf T kl ∧ out = kl.filter (badI ls T) ∧ e = .returned (.slice a out.length cap) ∧ Sl w' (.slice a out.length cap) (ints out) out.length 1 ∧ Below w.heap.size w w'
set_option maxRecDepth 100000 in
set_option maxHeartbeats 8000000 in
theorem scan_any {pc : Prop} (B t p r ps rs m N : Nat) (T : Nat → Option Ino) (us : List Bool) (ls : List ByteArray) (w : World) (h : TbAt pc w B t p r ps rs m N T us ls) (hN : N ≤ 1000000) (hz : Sz ls []) (E : Nat → Addr) (G : List Nat) (B0 : Nat) (henv : Env G B0 w E) (hG : 2 ∈ G) :
    Calls Tryz.prog 12 #[.pointer (some ⟨t, 0, none⟩)] w (ScP T ls w) := by
  obtain ⟨i0, hi, hz0, hz1, hz2⟩ := info_parts infoI
  obtain ⟨K, hK, hfin⟩ := h.fin
  have HAL := hidd (all_any B t p r ps rs m N T us ls w h hN)
  have HRD := hidd (fun W (hW : Below w.heap.size w W) k (hk : k < K) x (hx : T k = some x) => iread_any B t p r ps rs m N T us ls k x W (h.ob hW) (by omega) hx (h.s16 hz hx) E G B0 (henv.ob hW) hG)
  have HF := hidd hfin
  clear h hz henv hfin hG
  go_enter Tryz.func12, Tryz.ntmps12
  go_wp2_with fail
  refine HAL.out.mono ?_
  rintro e w1 ⟨kl, ka, kc, hko, hkl, rfl, hsl, hb1⟩
  have HKO := hidd hko
  have HSL := hidd (fun W (hW : Below w1.heap.size w1 W) => hsl.ob hW (Nat.le_refl _))
  have HB1 := hidd hb1
  clear hsl HAL hko hb1
  go_wp2_with fail
  go_loopw [3, 13] (fun vo vi wr => ∃ (j : Nat) (oa : Option Addr) (oc : Nat) (o : List Nat), j ≤ kl.length ∧ vi = .int .i64 (j : Int) ∧ vo = .slice oa o.length oc ∧ o.length ≤ j ∧ o = (kl.take j).filter (badI ls T) ∧ Ow (fun g => w1.heap.size ≤ g) wr 3 1 (.slice oa o.length oc) o.length (ints o) ∧ Below w1.heap.size w1 wr) (fun _ vi _ => kl.length - (intOf vi).toNat)
  case atStart => exact ⟨0, none, 0, [], Nat.zero_le _, rfl, rfl, Nat.le_refl _, rfl, Ow.nil _ _ _ _, Below.refl _ _⟩
  case round =>
    obtain ⟨j, oa, oc, o, hj, rfl, rfl, hol, ho, how, hbe⟩ := hrel
    by_cases hlt : j < kl.length
    · obtain ⟨sb, so, rfl, -, hc, hcell⟩ := (HSL.out wr hbe).at1 hlt
      rw [show (ints kl)[j] = .int .i64 ((kl[j] : Nat) : Int) by simp [ints]] at hcell
      have hkm : kl[j] ∈ kl := List.getElem_mem hlt
      have htk : (kl.take (j + 1)).filter (badI ls T) = o ++ (if badI ls T kl[j] = true then [kl[j]] else []) := by
        rw [List.take_succ_eq_append_getElem hlt, List.filter_append, ← ho]
        simp only [List.filter_cons, List.filter_nil]
      have p1 : (0 : Int) ≤ (j : Int) := by omega
      have p2 : (j : Int) < (kl.length : Int) := by omega
      have HLT := hidd hlt
      generalize kl[j] = k at *
      have hks := (HKO.out.2 k).1 hkm
      have hkK : k < K := by
        by_cases hl : k < K
        · exact hl
        · rw [HF.out k (by omega)] at hks; cases hks
      obtain ⟨x, hx⟩ := Option.isSome_iff_exists.1 hks
      have HR := hidd (HRD.out wr (below_step HB1.out hbe) k hkK x hx)
      have hbad := badI_some (ls := ls) hx
      have HOW := hidd (fun W (hW : Below wr.heap.size wr W) => how.ob hW)
      have HBE := hidd hbe
      unfold RgPost at HR
      clear hks hkm hkK hx how hbe ho hlt hc
      by_cases hq : crc (readB ls x).data.toList = crc x.data.data.toList
      · rw [if_pos hq] at HR
        have HN : Hid ((kl.take (j + 1)).filter (badI ls T) = o) := hidd (by rw [htk, hbad, decide_eq_true hq]; simp)
        clear htk hbad hq
        go_wp2_with fail
        refine HR.out.mono ?_
        rintro e w2 ⟨rfl, hb2⟩
        have HB2 := hidd (below_step HBE.out hb2)
        have HO2 := hidd (HOW.out w2 hb2)
        clear hb2 HR HBE HOW
        go_wp2_with fail
        go_roundw
        case rel => exact ⟨j + 1, oa, oc, o, HLT.out, by go_num, rfl, by omega, HN.out.symm, HO2.out, HB2.out⟩
        case measure => simp [intOf]; have := HLT.out; omega
      · rw [if_neg hq] at HR
        have HN : Hid ((kl.take (j + 1)).filter (badI ls T) = o ++ [k]) := hidd (by rw [htk, hbad, decide_eq_false hq]; simp)
        unfold erv at HR
        clear htk hbad hq
        go_wp2_with fail
        refine HR.out.mono ?_
        rintro e w2 ⟨rfl, hb2⟩
        have hb2' := below_step HBE.out hb2
        have HO2 := hidd ((HOW.out w2 hb2).alloc (.cells #[.int .i64 (k : Int)] 3))
        have hs1 := Src.new (P := Tryz.prog) (size := 1) (tx := 31) Tryz.underlying31 w2 w2.heap.size rfl [.int .i64 (k : Int)] 3 rfl (by intro u hu; simp only [List.mem_cons, List.not_mem_nil, or_false] at hu; rcases hu with rfl; rfl) 1
        have hB6 := hb2'.alloc hb2'.size (.cells #[.int .i64 (k : Int)] 3)
        have hsz6 := hB6.size
        have hsz5 := hb2'.size
        clear hb2 HR HBE HOW hb2'
        go_wp2_with (at_builtin; refine wpList_append_ow _ rfl _ _ 31 31 rfl (fun g => w1.heap.size ≤ g) ?cF 3 i0 _ 1 8 Tryz.underlying31 hi hz0 hz1 hz2 rfl (by decide) _ _ _ rfl HO2.out _ _ _ rfl hs1 ?c3 ?c4 ?_)
        case cF => intro g hg; omega
        case c3 => unfold maxLen; omega
        case c4 => omega
        intro v' w7 how7 hgr7
        obtain ⟨va7, vc7, rfl⟩ := how7.shape
        have HO7 := hidd how7
        have HB7 := hidd (hB6.grown hgr7 hB6.size (fun k hk => (HO2.out.blk k hk).1))
        clear how7 hgr7 HO2 hs1 hB6 hsz6 hsz5
        go_wp2_with fail
        go_roundw
        case rel => exact ⟨j + 1, va7, vc7, o ++ [k], HLT.out, by go_num, by rw [List.length_append]; rfl, by rw [List.length_append]; simp; omega, HN.out.symm, by rw [List.length_append, ints_snoc]; exact HO7.out, HB7.out⟩
        case measure => simp [intOf]; have := HLT.out; omega
    · have hkl2 : j = kl.length := by omega
      subst hkl2
      rw [List.take_of_length_le (Nat.le_refl _)] at ho
      have HP := hidd (show ScP T ls w (.returned (.slice oa o.length oc)) wr from ⟨kl, o, oa, oc, HKO.out, ho, rfl, how.sl, below_step HB1.out hbe⟩)
      clear ho how hbe hlt
      go_wp2_with fail
      go_ret
      exact HP.out

set_option maxRecDepth 100000 in
set_option maxHeartbeats 8000000 in
theorem mend_sum {pc : Prop} (B t p r ps rs m N : Nat) (T : Nat → Option Ino) (us : List Bool) (ls : List ByteArray) (k : Nat) (x : Ino) (data : ByteArray) (w : World) (h : TbAt pc w B t p r ps rs m N T us ls) (hk : k ≤ 1000000) (hx : T k = some x) (E : Nat → Addr) (G : List Nat) (B0 : Nat) (henv : Env G B0 w E) (hG : 2 ∈ G) (hd : data.size ≠ x.data.size) :
    Calls Tryz.prog 15 #[.pointer (some ⟨t, 0, none⟩), .int .i64 (k : Int), .string data] w fun e w' => e = .returned (erv E 2) ∧ Below w.heap.size w w' := by
  have HST := hidd (stat_ok B t p r ps rs m N T us ls k x w h hk hx)
  have HE := hidd (fun W (hW : Below w.heap.size w W) => (henv.ob hW).cell _ hG)
  have q1 : ((data.size : Int) != (x.data.size : Int)) = true := by simp; omega
  clear h henv hG
  go_enter Tryz.func15, Tryz.ntmps15
  go_wp2_with fail
  refine HST.out.mono ?_
  rintro e w1 ⟨sa, sc, rfl, -, hb1⟩
  have hB2 := hb1.alloc hb1.size (.cells #[.int .i64 (x.data.size : Int), .int .i64 (x.links : Int), .bool x.exec, .slice sa x.bl.length sc, .int .u32 (crc x.data.data.toList : Nat)] 34)
  have hbk := Blk.new w1 [.int .i64 (x.data.size : Int), .int .i64 (x.links : Int), .bool x.exec, .slice sa x.bl.length sc, .int .u32 (crc x.data.data.toList : Nat)] 34
  have d0 := hbk.cell (i := 0) rfl
  clear HST hb1
  go_wp2_with fail
  go_quiet (fail)
  have hB3 := below_step hB2 (below_dn _ nq)
  have hes := HE.out _ hB3
  unfold erv at hes
  go_wp2_with fail
  go_ret
  exact ⟨rfl, hB3⟩

set_option maxRecDepth 100000 in
set_option maxHeartbeats 8000000 in
theorem mend_ok {pc : Prop} (B t p r ps rs m N : Nat) (T : Nat → Option Ino) (us : List Bool) (ls : List ByteArray) (k : Nat) (x : Ino) (w : World) (h : TbAt pc w B t p r ps rs m N T us ls) (hk : k ≤ 1000000) (hx : T k = some x) (hz : Sz ls []) (E : Nat → Addr) (G : List Nat) (B0 : Nat) (henv : Env G B0 w E) (hG : 2 ∈ G) (hG2 : 4 ∈ G) :
    Calls Tryz.prog 15 #[.pointer (some ⟨t, 0, none⟩), .int .i64 (k : Int), .string x.data] w fun e w' => (crc (readB ls x).data.toList ≠ crc x.data.data.toList → TwPost B t p r ps rs m N T us ls x x.data w e w') ∧ (crc (readB ls x).data.toList = crc x.data.data.toList → e = .returned (erv E 4) ∧ Below w.heap.size w w') := by
  have HST := hidd (stat_ok B t p r ps rs m N T us ls k x w h hk hx)
  have HE := hidd (fun W (hW : Below w.heap.size w W) => (henv.ob hW).cell _ hG2)
  have HRD := hidd (fun W (hW : Below w.heap.size w W) => iread_any B t p r ps rs m N T us ls k x W (h.ob hW) hk hx (h.s16 hz hx) E G B0 (henv.ob hW) hG)
  have HWR := hidd (fun W (hW : Below w.heap.size w W) => twrite_ok B t p r ps rs m N T us ls k x x.data W (h.ob hW) hk hx rfl)
  have HSUM : Hid (∀ W, Calls Tryz.prog 27 #[.string x.data] W fun e w' => e = .returned (.int .u32 (crc x.data.data.toList : Nat)) ∧ W = w') := hidd (fun W => sum_any x.data W (by have := (h.ok k x hx).size; unfold maxLen; omega))
  have q1 : ((x.data.size : Int) != (x.data.size : Int)) = false := by simp
  have q2 : (((crc x.data.data.toList : Nat) : Int) != ((crc x.data.data.toList : Nat) : Int)) = false := by simp
  clear h henv hG hG2 hz
  go_enter Tryz.func15, Tryz.ntmps15
  go_wp2_with fail
  refine HST.out.mono ?_
  rintro e w1 ⟨sa, sc, rfl, -, hb1⟩
  have hB2 := hb1.alloc hb1.size (.cells #[.int .i64 (x.data.size : Int), .int .i64 (x.links : Int), .bool x.exec, .slice sa x.bl.length sc, .int .u32 (crc x.data.data.toList : Nat)] 34)
  have hbk := Blk.new w1 [.int .i64 (x.data.size : Int), .int .i64 (x.links : Int), .bool x.exec, .slice sa x.bl.length sc, .int .u32 (crc x.data.data.toList : Nat)] 34
  clear HST hb1
  go_upto_region 6 with fail
  obtain ⟨fb, hfb⟩ : ∃ fb, w1.heap.size = fb := ⟨_, rfl⟩
  rw [hfb] at hbk ⊢
  generalize w1.alloc (.cells #[.int .i64 (x.data.size : Int), .int .i64 (x.links : Int), .bool x.exec, .slice sa x.bl.length sc, .int .u32 (crc x.data.data.toList : Nat)] 34) = w2 at *
  have d0 := hbk.cell (i := 0) rfl
  have d4 := hbk.cell (i := 4) rfl
  have HC := hidd (show w2.cell? ⟨fb, 0, none⟩ = _ ∧ w2.cell? ⟨fb, 4, none⟩ = _ from ⟨d0, d4⟩)
  have HB2 := hidd hB2
  clear hB2 hbk hfb
  generalize hcv : crc x.data.data.toList = cv at *
  first
    | (go_region_held3 (fun W' => W'.cell? ⟨fb, 0, none⟩ = some (.int .i64 (x.data.size : Int)) ∧ W'.cell? ⟨fb, 4, none⟩ = some (.int .u32 (cv : Nat)) ∧ Below w.heap.size w W')
        (first | exact ⟨HC.out.1, HC.out.2, HB2.out.drew⟩ | assumption)
        (first | (go_at_call 27; refine (HSUM.out _).mono ?_; rintro e w9 ⟨rfl, rfl⟩)))
    | fail
  have hB3 := below_step HB2.out ((Below.refl _ w2).drew)
  have HR := hidd (HRD.out _ hB3)
  unfold RgPost at HR
  rw [hcv] at HR
  by_cases hq : crc (readB ls x).data.toList = cv
  · rw [if_pos hq] at HR
    clear HRD HC HSUM d0 d4 HWR
    go_wp2_with fail
    refine HR.out.mono ?_
    rintro e w3 ⟨rfl, hb3⟩
    have hB4 := below_step hB3 hb3
    have hes := HE.out _ hB4
    unfold erv at hes
    clear HR hb3 hB3
    go_wp2_with fail
    go_ret
    exact ⟨fun h => absurd (hq.trans hcv.symm) h, fun _ => ⟨rfl, hB4⟩⟩
  · rw [if_neg hq] at HR
    unfold erv at HR
    clear HRD HC HSUM d0 d4
    go_wp2_with fail
    refine HR.out.mono ?_
    rintro e w3 ⟨rfl, hb3⟩
    have hB4 := below_step hB3 hb3
    have HW4 := hidd (HWR.out _ hB4)
    clear HR hb3 hB3 HWR HE
    go_wp2_with fail
    refine HW4.out.mono ?_
    rintro e w4 ⟨rfl, htb, hf⟩
    have HP := hidd (show TwPost B t p r ps rs m N T us ls x x.data w (.returned .nilIface) w4 from ⟨rfl, htb, (Fr.ob hB4).trans hf⟩)
    clear htb hf HW4 hB4
    go_wp2_with fail
    go_ret
    exact ⟨fun _ => HP.out, fun h => absurd (h.trans hcv) hq⟩
end Go.Proofs.YtcpilhembdphoaaGreatDoor
