/- The document's table of inodes: Link. Condition: the table is there. · The document's table of inodes: Read. Condition: the table is there; the blocks are right ones of 16 bytes. -/
import Derived.Test.YtcpilhembdphoaaGreatDoorIa3
import Derived.Test.YtcpilhembdphoaaGreatDoorScA
namespace Go.Proofs.YtcpilhembdphoaaGreatDoor
open Go.RowKit

theorem mrows_link {T : Nat → Option Ino} {V : Nat → Value} {K k : Nat} {x : Ino} (hk : k < K) (hx : T k = some x) (l : Nat) : mrows (upd T k (some { x with links := l })) V K = (mrows T V K).set (k * 6 + 2) (.int .i64 (l : Int)) := by
  refine List.ext_getElem? (fun q => ?_)
  have hl := mrows_len T V K
  have hl' := mrows_len (upd T k (some { x with links := l })) V K
  rw [List.getElem?_set]
  by_cases hq : q < K * 6
  · have hL : ∀ T' : Nat → Option Ino, (mrows T' V K)[q]? = (mcell T' V (q / 6))[q % 6]? := fun T' => by
      have := mrows_at T' V K (k := q / 6) (i := q % 6) (by omega) (by omega)
      rwa [show q / 6 * 6 + q % 6 = q by omega] at this
    rw [hL, hL]
    by_cases e : q / 6 = k
    · subst e
      rw [mcell_some (upd_same _ _ _), mcell_some hx]
      have h6 : q % 6 = 0 ∨ q % 6 = 1 ∨ q % 6 = 2 ∨ q % 6 = 3 ∨ q % 6 = 4 ∨ q % 6 = 5 := by omega
      rcases h6 with h | h | h | h | h | h
      · rw [h, if_neg (by omega)]; rfl
      · rw [h, if_neg (by omega)]; rfl
      · rw [h, if_pos (by omega), if_pos (by omega)]; rfl
      · rw [h, if_neg (by omega)]; rfl
      · rw [h, if_neg (by omega)]; rfl
      · rw [h, if_neg (by omega)]; rfl
    · rw [if_neg (by omega)]
      unfold mcell
      rw [upd_other _ _ _ e]
  · rw [List.getElem?_eq_none (by omega), if_neg (by omega), List.getElem?_eq_none (by omega)]
theorem MdAt.link {w : World} {tm q : Nat} {lv : Value} {g off cap K : Nat} {T : Nat → Option Ino} {V : Nat → Value} {ls : List ByteArray} (h : MdAt w tm q lv (.slice (some ⟨g, off, none⟩) K cap) K T V ls) {k : Nat} (hk : k < K) {x : Ino} (hx : T k = some x) (l : Nat) :
    MdAt (w.setCell ⟨g, off + k * 6 + 2, none⟩ (.int .i64 (l : Int))) tm q lv (.slice (some ⟨g, off, none⟩) K cap) K (upd T k (some { x with links := l })) V ls ∧ Fr (fun b => b = g) w (w.setCell ⟨g, off + k * 6 + 2, none⟩ (.int .i64 (l : Int))) := by
  have hf : Fr (fun b => b = g) w (w.setCell ⟨g, off + k * 6 + 2, none⟩ (.int .i64 (l : Int))) := (Fr.refl (fun b => b = g) w).setCell (p := ⟨g, off + k * 6 + 2, none⟩) (.inl rfl) _
  refine ⟨⟨h.tab.fr hf (fun e => own_ne h.row h.tab (by decide) (by rw [e]; rfl)), h.dk.fr hf ?_, ?_, fun i y hy => ?_, fun i hi => by rw [upd_other _ _ _ (by omega)]; exact h.fin i hi, h.few⟩, hf⟩
  · rintro b (e | e | e) hb
    · exact own_ne h.row h.dk.head (by decide) (by rw [← e, hb]; rfl)
    · exact own_ne_own h.row h.dk.l (by decide) (b := b) (by rw [hb]; rfl) e
    · simp [Value.ownBlock] at e
  · rw [mrows_link hk hx l]
    have := h.row.setAt (by omega) (j := k * 6 + 2) (by omega) (.int .i64 (l : Int))
    rwa [show off + (k * 6 + 2) = off + k * 6 + 2 by omega] at this
  · have hfr : ∀ (u : Value) (m : Nat) (xs : List Value), Ow (fun _ => True) w 3 1 u m xs → Ow (fun _ => True) (w.setCell ⟨g, off + k * 6 + 2, none⟩ (.int .i64 (l : Int))) 3 1 u m xs := fun u m xs hu => hu.fr hf (fun b hb e => own_ne_own hu h.row (by decide) hb (by rw [e]; rfl))
    by_cases e : i = k
    · subst e
      rw [upd_same] at hy
      cases hy
      exact hfr _ _ _ (h.bl i x hx)
    · rw [upd_other _ _ _ e] at hy
      exact hfr _ _ _ (h.bl i y hy)

set_option maxRecDepth 100000 in
set_option maxHeartbeats 4000000 in
theorem rlink_none (w : World) (tm q : Nat) (lv rv : Value) (K : Nat) (T : Nat → Option Ino) (V : Nat → Value) (ls : List ByteArray) (h : MdAt w tm q lv rv K T V ls) (k more : Int) (hk : -9223372036854775808 ≤ k ∧ k ≤ 9223372036854775807) (hx : mapOf T k = none) :
    Calls Tryz.prog 40 #[.pointer (some ⟨tm, 0, none⟩), .int .i64 k, .int .i64 more] w fun e w' => e = .returned (.int .i64 6) ∧ w = w' := by
  have his := rIs_any w tm q lv rv K T V ls h k hk
  rw [hx, Option.isSome_none] at his
  have HIS := hidd his
  clear his h
  go_enter Tryz.func40, Tryz.ntmps40
  go_wp2_with fail
  refine HIS.out.mono ?_
  rintro e w1 ⟨rfl, rfl⟩
  go_wp2_with fail
  go_ret
  exact ⟨rfl, rfl⟩
/-- What Link does. -/
def RlPost (tm q : Nat) (lv rv : Value) (K : Nat) (T : Nat → Option Ino) (ls : List ByteArray) (k l : Nat) (x : Ino) (w : World) (e : Ending) (w' : World) : Prop :=
  e = .returned (.int .i64 0) ∧ (∃ V', MdAt w' tm q lv rv K (upd T k (if l = 0 then none else some { x with links := l })) V' ls) ∧ Fr (fun b => rv.ownBlock = some b) w w'
set_option maxRecDepth 100000 in
set_option maxHeartbeats 8000000 in
theorem rlink_ok (w : World) (tm q : Nat) (lv rv : Value) (K : Nat) (T : Nat → Option Ino) (V : Nat → Value) (ls : List ByteArray) (h : MdAt w tm q lv rv K T V ls) (k : Nat) (x : Ino) (hx : T k = some x) (more : Int) (l : Nat) (hl : (x.links : Int) + more = (l : Int)) (hl5 : l ≤ 1000000) :
    Calls Tryz.prog 40 #[.pointer (some ⟨tm, 0, none⟩), .int .i64 (k : Int), .int .i64 more] w (RlPost tm q lv rv K T ls k l x w) := by
  have hkK : k < K := by
    by_cases hlt : k < K
    · exact hlt
    · rw [h.fin k (by omega)] at hx; cases hx
  have hK := h.few
  have his := rIs_any w tm q lv rv K T V ls h (k : Int) (by omega)
  rw [mapOf_is, hx, Option.isSome_some] at his
  have HIS := hidd his
  obtain ⟨ra, rc, rfl⟩ := h.shape
  obtain ⟨g, off, rfl, hc⟩ := h.at hkK
  have hcs := mcell_some hx V
  have d2 := hc 2 (by omega) (.int .i64 (x.links : Int)) (by rw [hcs]; rfl)
  have z2 := h.row.frozen (by omega) (off + k * 6 + 2)
  have c1 := h.c1
  have p1 : (0 : Int) ≤ (k : Int) := by omega
  have p2 : (k : Int) < (K : Int) := by omega
  have ew : IntKind.i64.wrap ((x.links : Int) + more) = (l : Int) := by rw [hl]; exact i64_in _ (by omega)
  have hlk := h.link hkK hx l
  have HLK := hidd hlk
  clear his h hc hcs hlk hl
  go_enter Tryz.func40, Tryz.ntmps40
  go_wp2_with fail
  refine HIS.out.mono ?_
  rintro e w1 ⟨rfl, rfl⟩
  clear HIS
  go_wp2_with fail
  go_region
  all_goals
    obtain ⟨hm2, hf2⟩ := HLK.out
    have hm3 := hm2.ob ((Below.refl _ _).drew)
    have hf3 := hf2.drew
    generalize (w.setCell ⟨g, off + k * 6 + 2, none⟩ (.int .i64 (l : Int))).drew = w3 at *
    obtain ⟨g', off', he, hc⟩ := hm3.at hkK
    simp only [Option.some.injEq, Addr.mk.injEq] at he
    obtain ⟨rfl, rfl, -⟩ := he
    have hcs := mcell_some (upd_same T k (some { x with links := l })) V
    have n0 := hc 0 (by omega) (.bool true) (by rw [hcs]; rfl)
    rw [Nat.add_zero] at n0
    have n1 := hc 1 (by omega) (.int .i64 (x.data.size : Int)) (by rw [hcs]; rfl)
    have n2 := hc 2 (by omega) (.int .i64 (l : Int)) (by rw [hcs]; rfl)
    have n3 := hc 3 (by omega) (.bool x.exec) (by rw [hcs]; rfl)
    have n4 := hc 4 (by omega) (V k) (by rw [hcs]; rfl)
    have n5 := hc 5 (by omega) (.int .i64 ((crc x.data.data.toList : Nat) : Int)) (by rw [hcs]; rfl)
    have z0 := hm3.row.frozen (by omega) (off + k * 6)
    have z1 := hm3.row.frozen (by omega) (off + k * 6 + 1)
    have z2 := hm3.row.frozen (by omega) (off + k * 6 + 2)
    have z3 := hm3.row.frozen (by omega) (off + k * 6 + 3)
    have z4 := hm3.row.frozen (by omega) (off + k * 6 + 4)
    have z5 := hm3.row.frozen (by omega) (off + k * 6 + 5)
    have c1 := hm3.c1
    have HM3 := hidd hm3
    have HF3 := hidd hf3
    clear hm2 hf2 hm3 hf3 hc hcs d2 HLK ew
    by_cases hl0 : l = 0
    · have qt : ((l : Int) == 0) = true := by rw [show (l : Int) = 0 by omega]; rfl
      have HL0 := hidd hl0
      have hput := HM3.out.put hkK none (V k) (c0 := .bool false) (c1 := .int .i64 0) (c2 := .int .i64 0) (c3 := .bool false) (c4 := .slice none 0 0) (c5 := .int .i64 0) (mcell_none (upd_same _ _ _) _) (fun y hy => by cases hy)
      have hfrp := put6_fr w3 g (off + k * 6) (.bool false) (.int .i64 0) (.int .i64 0) (.bool false) (.slice none 0 0) (.int .i64 0)
      rw [show upd (upd T k (some { x with links := l })) k none = upd T k none by funext i; unfold upd; split <;> rfl] at hput
      have HP := hidd (show RlPost tm q lv (.slice (some ⟨g, off, none⟩) K rc) K T ls k l x w (.returned (.int .i64 0)) (put6 w3 g (off + k * 6) (.bool false) (.int .i64 0) (.int .i64 0) (.bool false) (.slice none 0 0) (.int .i64 0)) from
        ⟨rfl, ⟨_, by rw [if_pos hl0]; exact hput⟩, (HF3.out.trans hfrp).mono (fun i _ hi => by rw [hi]; rfl)⟩)
      clear hl0 hput hfrp
      go_wp2_with fail
      go_ret
      exact HP.out
    · have qz : ¬ (l : Int) = 0 := by omega
      have qt : ((l : Int) == 0) = false := by rw [beq_eq_false_iff_ne]; exact qz
      have HP := hidd (show RlPost tm q lv (.slice (some ⟨g, off, none⟩) K rc) K T ls k l x w (.returned (.int .i64 0)) w3 from ⟨rfl, ⟨V, by rw [if_neg hl0]; exact HM3.out⟩, HF3.out.mono (fun i _ hi => by rw [hi]; rfl)⟩)
      clear hl0
      go_wp2_with fail
      go_ret
      exact HP.out
end Go.Proofs.YtcpilhembdphoaaGreatDoor

namespace Go.Proofs.YtcpilhembdphoaaGreatDoor
open Go.RowKit

set_option maxRecDepth 100000 in
set_option maxHeartbeats 4000000 in
theorem rtread_none (w : World) (tm q : Nat) (lv rv : Value) (K : Nat) (T : Nat → Option Ino) (V : Nat → Value) (ls : List ByteArray) (h : MdAt w tm q lv rv K T V ls) (k : Int) (hk : -9223372036854775808 ≤ k ∧ k ≤ 9223372036854775807) (hx : mapOf T k = none) :
    Calls Tryz.prog 47 #[.pointer (some ⟨tm, 0, none⟩), .int .i64 k] w fun e w' => e = .returned (.tuple #[.string ⟨#[]⟩, .int .i64 6]) ∧ w = w' := by
  have his := rIs_any w tm q lv rv K T V ls h k hk
  rw [hx, Option.isSome_none] at his
  have HIS := hidd his
  clear his h
  go_enter Tryz.func47, Tryz.ntmps47
  go_wp2_with fail
  refine HIS.out.mono ?_
  rintro e w1 ⟨rfl, rfl⟩
  go_wp2_with fail
  go_ret2
  exact ⟨rfl, rfl⟩
/-- What Read answers. -/
def RtdPost (ls : List ByteArray) (x : Ino) (w : World) (e : Ending) (w' : World) : Prop := e = .returned (if crc (readB ls x).data.toList = crc x.data.data.toList then .tuple #[.string (readB ls x), .int .i64 0] else .tuple #[.string ⟨#[]⟩, .int .i64 11]) ∧ Below w.heap.size w w'
set_option maxRecDepth 100000 in
set_option maxHeartbeats 8000000 in
theorem rtread_ok (w : World) (tm q : Nat) (lv rv : Value) (K : Nat) (T : Nat → Option Ino) (V : Nat → Value) (ls : List ByteArray) (h : MdAt w tm q lv rv K T V ls) (k : Nat) (x : Ino) (hx : T k = some x) (hs16 : S16 ls x.bl) (hinr : ∀ b ∈ x.bl, b < ls.length) (hlen : x.bl.length = needN x.data.size) (hds : x.data.size ≤ 2000) :
    Calls Tryz.prog 47 #[.pointer (some ⟨tm, 0, none⟩), .int .i64 (k : Int)] w (RtdPost ls x w) := by
  have hkK : k < K := by
    by_cases hlt : k < K
    · exact hlt
    · rw [h.fin k (by omega)] at hx; cases hx
  have hK := h.few
  have his := rIs_any w tm q lv rv K T V ls h (k : Int) (by omega)
  rw [mapOf_is, hx, Option.isSome_some] at his
  have HIS := hidd his
  obtain ⟨ra, rc, rfl⟩ := h.shape
  obtain ⟨g, off, rfl, hc⟩ := h.at hkK
  have hcs := mcell_some hx V
  have d0 := hc 0 (by omega) (.bool true) (by rw [hcs]; rfl)
  rw [Nat.add_zero] at d0
  have d1 := hc 1 (by omega) (.int .i64 (x.data.size : Int)) (by rw [hcs]; rfl)
  have d2 := hc 2 (by omega) (.int .i64 (x.links : Int)) (by rw [hcs]; rfl)
  have d3 := hc 3 (by omega) (.bool x.exec) (by rw [hcs]; rfl)
  have d4 := hc 4 (by omega) (V k) (by rw [hcs]; rfl)
  have d5 := hc 5 (by omega) (.int .i64 ((crc x.data.data.toList : Nat) : Int)) (by rw [hcs]; rfl)
  have c1 := h.c1
  have p1 : (0 : Int) ≤ (k : Int) := by omega
  have p2 : (k : Int) < (K : Int) := by omega
  obtain ⟨va, vc, hv⟩ := (h.bl k x hx).shape
  have hbl := h.bl k x hx
  rw [hv] at d4 hbl
  have hl125 : x.bl.length ≤ 125 := by rw [hlen]; exact needN_le _ hds
  have hhi := needN_hi x.data.size
  rw [← hlen] at hhi
  have hcl := catL_len ls x.bl hs16
  have HM := hidd (fun W (hW : Below w.heap.size w W) => h.ob hW)
  have HB := hidd (fun W (hW : Below w.heap.size w W) => (hbl.ob hW).sl)
  have HCL := hidd hcl
  have HS := hidd hs16
  have HIN := hidd hinr
  have HHI := hidd hhi
  clear his h hc hcs hbl hcl hs16 hinr hlen hv hhi
  generalize hbe : x.bl = bl at *
  have HRB := hidd (show readB ls x = (⟨(catL ls bl bl.length).toArray⟩ : ByteArray).extract 0 x.data.size by unfold readB; rw [hbe])
  clear hbe
  go_enter Tryz.func47, Tryz.ntmps47
  go_wp2_with fail
  refine HIS.out.mono ?_
  rintro e w1 ⟨rfl, rfl⟩
  clear HIS
  have hA := (Below.refl w.heap.size w).alloc (Nat.le_refl _) (.cells #[.bool true, .int .i64 (x.data.size : Int), .int .i64 (x.links : Int), .bool x.exec, .slice va bl.length vc, .int .i64 ((crc x.data.data.toList : Nat) : Int)] 104)
  have hxb := Blk.new w [.bool true, .int .i64 (x.data.size : Int), .int .i64 (x.links : Int), .bool x.exec, .slice va bl.length vc, .int .i64 ((crc x.data.data.toList : Nat) : Int)] 104
  go_upto_region 5 with fail
  obtain ⟨xb, hxe⟩ : ∃ xb, w.heap.size = xb := ⟨_, rfl⟩
  rw [hxe] at hxb ⊢
  generalize w.alloc (.cells #[.bool true, .int .i64 (x.data.size : Int), .int .i64 (x.links : Int), .bool x.exec, .slice va bl.length vc, .int .i64 ((crc x.data.data.toList : Nat) : Int)] 104) = w2 at *
  have HXB := hidd (fun W (hW : Below w2.heap.size w2 W) => hxb.below hW hxb.lt)
  have HA := hidd hA
  have HXE := hidd hxe
  clear d0 d1 d2 d3 d4 d5 c1 p1 p2 hxb hA hxe
  go_wp2_with fail
  go_loopw [8, 9] (fun sv i wr => ∃ j : Nat, j ≤ bl.length ∧ i = .int .i64 (j : Int) ∧ sv = .string ⟨(catL ls bl j).toArray⟩ ∧ Below w2.heap.size w2 wr) (fun _ i _ => bl.length - (intOf i).toNat)
  case atStart => exact ⟨0, Nat.zero_le _, rfl, rfl, Below.refl _ _⟩
  case round =>
    obtain ⟨j, hj, rfl, rfl, hbe⟩ := hrel
    have hbw := below_step HA.out hbe
    have hr := HM.out wr hbw
    have c0 := hr.c0
    have hx4 := HXB.out wr hbe
    have x4 := hx4.cell (i := 4) rfl
    have x1 := hx4.cell (i := 1) rfl
    have x5 := hx4.cell (i := 5) rfl
    have hsz : (⟨(catL ls bl j).toArray⟩ : ByteArray).size = 16 * j := by rw [Lib.size_eq]; simpa using HCL.out j hj
    by_cases hlt : j < bl.length
    · obtain ⟨sb, so, rfl, -, hcb, hcell⟩ := (HB.out wr hbw).at1 hlt
      rw [show (ints bl)[j] = .int .i64 ((bl[j] : Nat) : Int) by simp [ints]] at hcell
      have hkm : bl[j] ∈ bl := List.getElem_mem hlt
      have hgd : bl.getD j 0 = bl[j] := by rw [List.getD_eq_getElem?_getD, List.getElem?_eq_getElem hlt]; rfl
      have hnx : (⟨(catL ls bl j).toArray⟩ : ByteArray) ++ ls.getD bl[j] ByteArray.empty = ⟨(catL ls bl (j + 1)).toArray⟩ := Go.WideShapes.bytes_inj (by
        rw [catL, hgd, ByteArray.data_append]; simp)
      have p1 : (0 : Int) ≤ (j : Int) := by omega
      have p2 : (j : Int) < (bl.length : Int) := by omega
      have hrs := HS.out _ hkm
      have hrd := rread_any q lv (.slice none 0 0) ls [] bl[j] wr.drew (hr.dk.ob ((Below.refl wr.heap.size wr).drew) (Nat.le_refl _)) (HIN.out _ hkm)
      rw [show rdW [] bl[j] (ls.getD bl[j] ByteArray.empty) = ls.getD bl[j] ByteArray.empty from rfl] at hrd
      generalize bl[j] = b at *
      generalize ls.getD b ByteArray.empty = sb2 at *
      generalize (⟨(catL ls bl j).toArray⟩ : ByteArray) = S at *
      have hcat : ¬ 9223372036854775807 < S.size + sb2.size := by omega
      have HNX := hidd hnx
      have HRD := hidd hrd
      have HLT := hidd hlt
      have HBE := hidd hbe
      have c0' : wr.drew.cell? ⟨tm, 0, none⟩ = _ := c0
      have x4' : wr.drew.cell? ⟨xb, 4, none⟩ = _ := x4
      have hcell' : wr.drew.cell? ⟨sb, so + j, none⟩ = _ := hcell
      clear hnx hrd hr hx4 hsz hkm hgd hcb hlt hrs hbe hbw
      go_wp2_with fail
      go_region_with (first
        | (go_at_call 66; (with_reducible refine HRD.out.mono ?_); rintro e w9 ⟨rfl, rfl⟩))
      all_goals
        go_wp2_with fail
        go_roundw
        case rel => exact ⟨j + 1, HLT.out, by go_num, by rw [← HNX.out], HBE.out.drew⟩
        case measure => simp [intOf]; have := HLT.out; omega
    · have hjl : j = bl.length := by omega
      subst hjl
      have hrb := HRB.out
      have hle0 : (0 : Int) ≤ (x.data.size : Int) := by omega
      have hle : x.data.size ≤ (⟨(catL ls bl bl.length).toArray⟩ : ByteArray).size := by rw [hsz]; exact HHI.out
      generalize (⟨(catL ls bl bl.length).toArray⟩ : ByteArray) = S at *
      have hle1 : (x.data.size : Int) ≤ (S.size : Int) := by omega
      have hrz : (readB ls x).size ≤ 2000 := by rw [hrb]; simp; omega
      have HRB2 := hidd hrb
      have HBE := hidd hbw
      clear hr hx4 hlt hrb hle hsz hbe hbw c0
      go_upto_region 11 with fail
      rw [show S.extract 0 x.data.size = readB ls x from HRB2.out.symm]
      have HCR := hidd (fun W => rcrc_any (readB ls x) W (by omega))
      have x5' : wr.drew.cell? ⟨xb, 5, none⟩ = _ := x5
      have hP : ∀ W, Below wr.heap.size wr W → RtdPost ls x w (.returned (if crc (readB ls x).data.toList = crc x.data.data.toList then .tuple #[.string (readB ls x), .int .i64 0] else .tuple #[.string ⟨#[]⟩, .int .i64 11])) W := fun W hW => ⟨rfl, below_step HBE.out hW⟩
      by_cases hq : crc (readB ls x).data.toList = crc x.data.data.toList
      · simp only [if_pos hq] at hP
        have HP := hidd (hP wr.drew ((Below.refl _ _).drew))
        rw [hq] at HCR
        clear hP hq hrz
        generalize readB ls x = R at *
        generalize crc x.data.data.toList = cv at *
        go_region_with (first
          | (go_at_call 62; refine (HCR.out _).mono ?_; rintro e w9 ⟨rfl, rfl⟩))
        all_goals
          go_wp2_with fail
          go_ret2
          exact HP.out
      · simp only [if_neg hq] at hP
        have HP := hidd (hP wr.drew ((Below.refl _ _).drew))
        clear hP hrz
        generalize crc (readB ls x).data.toList = cr at *
        generalize crc x.data.data.toList = cv at *
        generalize readB ls x = R at *
        have qn : ¬ (cr : Int) = (cv : Int) := by omega
        have qn2 : ((cr : Int) != (cv : Int)) = true := by simp; omega
        clear hq
        go_region_with (first
          | (go_at_call 62; refine (HCR.out _).mono ?_; rintro e w9 ⟨rfl, rfl⟩))
        all_goals
          go_wp2_with fail
          go_ret2
          exact HP.out
end Go.Proofs.YtcpilhembdphoaaGreatDoor
