/- stillroomlaw2.longFiles; the acts of an argument in memory. No condition. · stillroomlaw2.InodeActs, walked. Condition: the acts are there, the variables read as listed. -/
import Derived.Test.YtcpilhembdphoaaGreatDoorIn8
import Derived.Test.YtcpilhembdphoaaGreatDoorIaF
namespace Go.Proofs.YtcpilhembdphoaaGreatDoor
open Go.RowKit

/-- An act on a table. -/
structure Filed where
  kind : ByteArray
  s : ByteArray
  ex : Bool
  n : Int
  bit : Int
/-- The argument: a list of acts. -/
def FActs (w : World) (a : Option Addr) (L : List Filed) : Prop :=
  ∀ i (h : i < L.length), ∃ b off, a = some ⟨b, off, none⟩ ∧ w.cell? ⟨b, off + i * 5, none⟩ = some (.string L[i].kind) ∧ w.cell? ⟨b, off + i * 5 + 1, none⟩ = some (.string L[i].s) ∧ w.cell? ⟨b, off + i * 5 + 2, none⟩ = some (.bool L[i].ex) ∧
    w.cell? ⟨b, off + i * 5 + 3, none⟩ = some (.int .i64 L[i].n) ∧ w.cell? ⟨b, off + i * 5 + 4, none⟩ = some (.int .i64 L[i].bit) ∧ -9223372036854775808 ≤ L[i].n ∧ L[i].n ≤ 9223372036854775807

def LfPost (L : List Filed) (w : World) (e : Ending) (w' : World) : Prop := ∃ b : Bool, e = .returned (.bool b) ∧ w = w' ∧ (b = false → L.length ≤ 40 ∧ ∀ i (h : i < L.length), L[i].s.size ≤ 120 ∨ L[i].s.size = 2001)

set_option maxRecDepth 100000 in
set_option maxHeartbeats 2000000 in
theorem longFiles_any (a : Option Addr) (cap : Nat) (L : List Filed) (w : World) (hL : FActs w a L) : Calls Tryz.prog 17 #[.slice a L.length cap] w (LfPost L w) := by
  by_cases h40 : 40 < L.length
  · have h1 : (40 : Int) < (L.length : Int) := by omega
    go_enter Tryz.func17, Tryz.ntmps17
    go_wp2_with fail
    go_ret
    exact ⟨true, rfl, rfl, fun h => by cases h⟩
  · have h1 : ¬ (40 : Int) < (L.length : Int) := by omega
    go_enter Tryz.func17, Tryz.ntmps17
    go_wp2_with fail
    go_loop [3] (fun i => ∃ j : Nat, j ≤ L.length ∧ i = .int .i64 (j : Int) ∧ ∀ k (h : k < L.length), k < j → L[k].s.size ≤ 120 ∨ L[k].s.size = 2001) (fun i => L.length - (intOf i).toNat)
    case atStart => exact ⟨0, Nat.zero_le _, rfl, fun _ _ h => by omega⟩
    case round =>
      obtain ⟨j, hj, rfl, hok⟩ := hrel
      by_cases hlt : j < L.length
      · obtain ⟨b, off, rfl, c0, c1, c2, c3, c4, -⟩ := hL j hlt
        have q1 : (0 : Int) ≤ (j : Int) := by omega
        have q2 : (j : Int) < (L.length : Int) := by omega
        have HO := hidd hok
        by_cases hs : 120 < L[j].s.size
        · have hs1 : (120 : Int) < (L[j].s.size : Int) := by omega
          by_cases ht : L[j].s.size = 2001
          · have ht1 : ((L[j].s.size : Int) != 2001) = false := by simp [ht]
            have ht2 : ((L[j].s.size : Int) == 2001) = true := by simp [ht]
            have HT := hidd ht
            clear ht hok
            generalize hx : L[j] = x at *
            have HX := hidd hx
            clear hx
            go_wp2_with fail
            go_round
            case rel =>
              refine ⟨j + 1, by omega, by go_num, fun k h hk => ?_⟩
              by_cases e : k = j
              · subst e; rw [HX.out]; exact .inr HT.out
              · exact HO.out k h (by omega)
            case measure => simp [intOf]; omega
          · have ht1 : ((L[j].s.size : Int) != 2001) = true := by simp; omega
            have ht2 : ((L[j].s.size : Int) == 2001) = false := by simp; omega
            clear ht hok
            generalize L[j] = x at *
            go_wp2_with fail
            go_ret
            exact ⟨true, rfl, rfl, fun h => by cases h⟩
        · have hs1 : ¬ (120 : Int) < (L[j].s.size : Int) := by omega
          have HT := hidd hs
          clear hs hok
          generalize hx : L[j] = x at *
          have HX := hidd hx
          clear hx
          go_wp2_with fail
          go_round
          case rel =>
            refine ⟨j + 1, by omega, by go_num, fun k h hk => ?_⟩
            by_cases e : k = j
            · subst e; rw [HX.out]; have := HT.out; exact .inl (by omega)
            · exact HO.out k h (by omega)
          case measure => simp [intOf]; omega
      · have HO : Hid (∀ k (h : k < L.length), L[k].s.size ≤ 120 ∨ L[k].s.size = 2001) := hidd (fun k h => hok k h (by omega))
        have hlt1 : ¬ (j : Int) < (L.length : Int) := by omega
        clear hok
        go_wp2_with fail
        go_ret
        exact ⟨false, rfl, rfl, fun _ => ⟨by omega, HO.out⟩⟩

end Go.Proofs.YtcpilhembdphoaaGreatDoor

namespace Go.Proofs.YtcpilhembdphoaaGreatDoor
open Go.RowKit

set_option maxRecDepth 100000 in
set_option maxHeartbeats 2000000 in
theorem stat_none {pc : Prop} (B t p r ps rs m N : Nat) (T : Nat → Option Ino) (us : List Bool) (ls : List ByteArray) (k : Int) (w : World) (h : TbAt pc w B t p r ps rs m N T us ls) (hk : -9223372036854775808 ≤ k ∧ k ≤ 9223372036854775807) (hx : mapOf T k = none) :
    Calls Tryz.prog 8 #[.pointer (some ⟨t, 0, none⟩), .int .i64 k] w fun e w' => e = .returned (.tuple #[.agg #[.int .i64 0, .int .i64 0, .bool false, .slice none 0 0, .int .u32 0], .bool false]) ∧ Below w.heap.size w w' := by
  have hB1 : Below w.heap.size w (w.alloc (.cells #[.int .i64 0, .int .i64 0, .bool false, .slice none 0 0, .int .u32 0] 34)) := (Below.refl _ _).alloc (Nat.le_refl _) _
  have h1 := h.ob hB1
  have s0 := Blk.new w [.int .i64 0, .int .i64 0, .bool false, .slice none 0 0, .int .u32 0] 34
  obtain ⟨n, hn, hm⟩ := h1.mp
  have hc2 := h1.c2
  have hl := hm.look_ok hk
  rw [hx] at hl
  simp only [ptrV, Option.map_none, Option.isSome_none] at hl
  clear h h1 hm hn hx
  have e0 := s0.cell (i := 0) rfl
  have e1 := s0.cell (i := 1) rfl
  have e2 := s0.cell (i := 2) rfl
  have e3 := s0.cell (i := 3) rfl
  have e4 := s0.cell (i := 4) rfl
  have HB := hidd hB1
  clear s0 hB1
  go_enter Tryz.func8, Tryz.ntmps8
  go_wp2_with fail
  refine bodyPost_ret (v := .tuple #[.agg #[.int .i64 0, .int .i64 0, .bool false, .slice none 0 0, .int .u32 0], .bool false]) ?_ rfl ?_
  · rw [results_cell_tmp rfl]
    go_simp
  · exact ⟨rfl, HB.out⟩
set_option maxRecDepth 100000 in
theorem inew_nil (w : World) (E : Nat → Addr) (hE : w.cell? ⟨3, 0, none⟩ = some (erv E 3)) :
    Calls Tryz.prog 19 #[.pointer none] w fun e w' => e = .returned (.tuple #[.pointer none, erv E 3]) ∧ Below w.heap.size w w' := by
  unfold erv at *
  go_enter Tryz.func19, Tryz.ntmps19
  first
    | (go_wp2_with fail; go_ret2; exact ⟨rfl, Below.refl _ _⟩)
    | (go_wp2_with fail; go_quiet (fail); go_wp2_with fail; go_ret2; exact ⟨rfl, below_dn _ _⟩)
theorem FActs.ob {w w' : World} {a : Option Addr} {L : List Filed} (h : FActs w a L) (hb : Below w.heap.size w w') : FActs w' a L := fun i hi => by
  obtain ⟨b, off, e, c0, c1, c2, c3, c4, c5⟩ := h i hi
  exact ⟨b, off, e, (hb.cell (World.block_lt_of_cell? w _ c0)).trans c0, (hb.cell (World.block_lt_of_cell? w _ c1)).trans c1, (hb.cell (World.block_lt_of_cell? w _ c2)).trans c2, (hb.cell (World.block_lt_of_cell? w _ c3)).trans c3, (hb.cell (World.block_lt_of_cell? w _ c4)).trans c4, c5⟩
/-- An act, whatever its kind but 'mend'. -/
theorem act_any (E : Nat → Addr) (B0 : Nat) (w0 w : World) (t p r ps rs m tm q : Nat) (lv : Value) (n j : Nat) (h : St w0 t p r ps rs m tm q lv n j w) (hj : j ≤ 1000) (hE : ∀ W, Below w0.heap.size w0 W → Env codeGs B0 W E) (hH : ∀ W, Below w0.heap.size w0 W → Hnd W) (kind s : ByteArray) (ex : Bool) (k bit : Int) (hk : -9223372036854775808 ≤ k ∧ k ≤ 9223372036854775807) (hm : (kind.toList == [109, 101, 110, 100]) = false) :
    Calls Tryz.prog 18 #[.pointer (some ⟨t, 0, none⟩), .pointer (some ⟨tm, 0, none⟩), .agg #[.string kind, .string s, .bool ex, .int .i64 k, .int .i64 bit]] w (AfPost w0 t p r ps rs m tm q lv n j) := by
  obtain ⟨N, rv, K, T, V, us, ls, hN, hK, rfl, hb⟩ := h
  cases h1 : (kind.toList == [109, 97, 107, 101])
  · cases h2 : (kind.toList == [108, 105, 110, 107])
    · cases h3 : (kind.toList == [117, 110, 108, 105, 110, 107])
      · exact act_rot E B0 w0 w t p r ps rs m N tm q lv rv K T V us ls j hb hN hK hE hH kind s ex k bit h1 h2 h3 hm
      · exact act_unlink E B0 w0 w t p r ps rs m N tm q lv rv K T V us ls j hb hN hK hj hE hH kind s ex k bit hk h1 h2 h3
    · exact act_link E B0 w0 w t p r ps rs m N tm q lv rv K T V us ls j hb hN hK hj hE hH kind s ex k bit hk h1 h2
  · exact act_make E B0 w0 w t p r ps rs m N tm q lv rv K T V us ls j hb hN hK hj hE hH kind s ex k bit h1
set_option maxRecDepth 100000 in
set_option maxHeartbeats 40000000 in
theorem inodeActs_true (E : Nat → Addr) (B0 : Nat) (n : Int) (a : Option Addr) (cap : Nat) (L : List Filed) (k : Int) (w : World) (hL : FActs w a L) (hE : Env codeGs B0 w E) (hH : Hnd w) (hk : -9223372036854775808 ≤ k ∧ k ≤ 9223372036854775807) :
    Calls Tryz.prog 4 #[.int .i64 n, .slice a L.length cap, .int .i64 k] w fun e w' => e = .returned (.bool true) ∧ Below w.heap.size w w' := by
  have HE := hidd (fun W (hW : Below w.heap.size w W) => hE.ob hW)
  have HHn := hidd (fun W (hW : Below w.heap.size w W) => hH.below hW (Nat.le_refl _))
  have HL := hidd (fun W (hW : Below w.heap.size w W) => hL.ob hW)
  clear hE hH hL
  by_cases h1 : n < 1
  · go_enter Tryz.func4, Tryz.ntmps4
    go_wp2_with fail
    refine (made_true w).mono ?_
    rintro e w1 ⟨rfl, hB1⟩
    go_wp2_with fail
    go_ret
    exact ⟨rfl, hB1⟩
  by_cases h2 : 40 < n
  · go_enter Tryz.func4, Tryz.ntmps4
    go_wp2_with fail
    refine (made_true w).mono ?_
    rintro e w1 ⟨rfl, hB1⟩
    go_wp2_with fail
    go_ret
    exact ⟨rfl, hB1⟩
  obtain ⟨nn, rfl⟩ := Int.eq_ofNat_of_zero_le (show 0 ≤ n by omega)
  go_enter Tryz.func4, Tryz.ntmps4
  go_wp2_with fail
  refine (made_true w).mono ?_
  rintro e w1 ⟨rfl, hB1⟩
  have HLF := hidd (longFiles_any a cap L w1 (HL.out w1 hB1))
  go_wp2_with fail
  refine HLF.out.mono ?_
  rintro e w2 ⟨b1, rfl, rfl, hlf⟩
  clear HLF
  cases b1
  rotate_left
  · go_wp2_with fail
    go_ret
    exact ⟨rfl, hB1⟩
  obtain ⟨hl40, -⟩ := hlf rfl
  have HTO := hidd (tableOf2_ok nn w1 (by omega) (by omega))
  have HB1 := hidd hB1
  clear hlf hB1
  go_wp2_with fail
  clear h1 h2
  refine HTO.out.mono ?_
  rintro e w2 ⟨t, p, r, ps, rs, m, tm, q, lv, rfl, hbo⟩
  have hst : St w1 t p r ps rs m tm q lv nn 0 w2 := ⟨0, _, 0, _, _, _, _, Nat.le_refl _, Nat.le_refl _, by simp, hbo⟩
  have HST := hidd hst
  have HE1 := hidd (fun W (hW : Below w1.heap.size w1 W) => HE.out W (below_step HB1.out hW))
  have HH1 := hidd (fun W (hW : Below w1.heap.size w1 W) => HHn.out W (below_step HB1.out hW))
  have HL1 := hidd (fun W (hW : Below w1.heap.size w1 W) => HL.out W (below_step HB1.out hW))
  clear HTO hbo hst HE HHn HL
  go_wp2_with fail
  go_loopw [11] (fun i wr => ∃ j : Nat, j ≤ L.length ∧ i = .int .i64 (j : Int) ∧ St w1 t p r ps rs m tm q lv nn j wr) (fun i _ => L.length - (intOf i).toNat)
  case atStart => exact ⟨0, Nat.zero_le _, rfl, HST.out⟩
  case round =>
    clear HST
    obtain ⟨j, hj, rfl, hst⟩ := hrel
    have hbw : Below w1.heap.size w1 wr := by obtain ⟨_, _, _, _, _, _, _, _, _, _, hb⟩ := hst; exact hb.below
    by_cases hlt : j < L.length
    · obtain ⟨b, off, rfl, c0, c1, c2, c3, c4, hk1, hk2⟩ := HL1.out wr hbw j hlt
      have p1 : (0 : Int) ≤ (j : Int) := by omega
      have p2 : (j : Int) < (L.length : Int) := by omega
      have HLT := hidd hlt
      generalize L[j] = f at *
      obtain ⟨kind, s, ex, fn, bit⟩ := f
      simp only at c0 c1 c2 c3 c4 hk1 hk2
      cases hmend : (kind.toList == [109, 101, 110, 100])
      · have HAC := hidd (act_any E B0 w1 wr t p r ps rs m tm q lv nn j hst (by omega) HE1.out HH1.out kind s ex fn bit ⟨hk1, hk2⟩ hmend)
        clear hst hlt hbw
        go_wp2_with fail
        refine HAC.out.mono ?_
        rintro e w3 ⟨rfl, hst3⟩
        have HS3 := hidd hst3
        clear HAC hst3
        go_wp2_with fail
        go_roundw
        case rel => exact ⟨j + 1, HLT.out, by go_num, HS3.out⟩
        case measure => simp [intOf]; have := HLT.out; omega
      · have HS3 := hidd hst.more
        clear hst hlt hbw
        go_wp2_with fail
        go_roundw
        case rel => exact ⟨j + 1, HLT.out, by go_num, HS3.out⟩
        case measure => simp [intOf]; have := HLT.out; omega
    · have hjl : j = L.length := by omega
      subst hjl
      obtain ⟨N, rv, K, T, V, us, ls, hN, hK, -, hbo⟩ := hst
      have HIN := hidd (inew_nil wr E ((HE1.out wr hbw).cell _ (by decide)))
      have HBO := hidd hbo
      clear hbo hbw hlt
      go_wp2_with fail
      refine HIN.out.mono ?_
      rintro e w3 ⟨rfl, hb3⟩
      have h3 := HBO.out.ob hb3
      unfold erv
      by_cases hx : mapOf T k = none
      · have HS := hidd (stat_none w1.heap.size t p r ps rs m N T us ls k w3 h3.tb hk hx)
        have H3 := hidd h3
        clear HIN h3 hb3
        go_wp2_with fail
        refine HS.out.mono ?_
        rintro e w4 ⟨rfl, hb4⟩
        have hA4 := (Below.refl w4.heap.size w4).alloc (Nat.le_refl _) (.cells #[.int .i64 0, .int .i64 0, .bool false, .slice none 0 0, .int .u32 0] 34)
        have hxb := Blk.new w4 [.int .i64 0, .int .i64 0, .bool false, .slice none 0 0, .int .u32 0] 34
        have h5 := (H3.out.ob hb4).ob hA4
        go_upto_region 16 with fail
        obtain ⟨xb, hxe⟩ : ∃ xb, w4.heap.size = xb := ⟨_, rfl⟩
        rw [hxe] at hxb ⊢
        clear hxe hb4 hA4 HS
        generalize w4.alloc (.cells #[.int .i64 0, .int .i64 0, .bool false, .slice none 0 0, .int .u32 0] 34) = w5 at *
        have hrd := read_none w1.heap.size t p r ps rs m N T us ls k w5 E h5.tb hk hx ((HE1.out w5 h5.below).cell _ (by decide))
        unfold erv at hrd
        have HRD := hidd hrd
        have H5 := hidd h5
        have HXB := hidd hxb
        clear hrd h5 hxb
        go_wp2_with fail
        refine HRD.out.mono ?_
        rintro e w6 ⟨rfl, hb6⟩
        have h6 := H5.out.ob hb6
        have hxb6 := HXB.out.below hb6 HXB.out.lt
        have hcd := coded2 E B0 w6 (HE1.out _ h6.below) (HH1.out _ h6.below) (erv E 3) 3 (.inr ⟨2, by decide, rfl, rfl⟩) 3
        rw [show decide (((3 : Nat) : Int) = 3) = true by decide] at hcd
        unfold erv at hcd
        have HCD := hidd hcd
        have H6 := hidd h6
        have HXB6 := hidd hxb6
        clear hcd h6 hxb6 hb6 HRD H5 HXB
        go_wp2_with fail
        refine HCD.out.mono ?_
        rintro e w7 ⟨rfl, hb7⟩
        have h7 := H6.out.ob hb7
        have hxb7 := HXB6.out.below hb7 HXB6.out.lt
        have his := rIs_any w7 tm q lv rv K T V ls h7.md k hk
        rw [hx, Option.isSome_none] at his
        have HIS := hidd his
        have hcd := coded2 E B0 w7 (HE1.out _ h7.below) (HH1.out _ h7.below) (erv E 1) 6 (.inr ⟨5, by decide, rfl, rfl⟩) 6
        rw [show decide (((6 : Nat) : Int) = 6) = true by decide] at hcd
        unfold erv at hcd
        have HC2 := hidd hcd
        have z0 := hxb7.cell (i := 0) rfl
        have z1 := hxb7.cell (i := 1) rfl
        have z3 := hxb7.cell (i := 3) rfl
        have H7 := hidd h7
        clear hcd his h7 hxb7 hb7 HCD H6 HXB6
        go_wp2_with fail
        refine HIS.out.mono ?_
        rintro e w8 ⟨rfl, rfl⟩
        clear HIS
        go_wp2_with fail
        refine HC2.out.mono ?_
        rintro e w8 ⟨rfl, hb8⟩
        have h8 := H7.out.ob hb8
        have HAT := hidd (asTable_true E B0 w1 w8 t p r ps rs m N tm q lv rv K T V us ls h8 (by omega) HE1.out HH1.out)
        have HB8 := hidd h8.below
        clear h8 hb8 HC2 H7 z0 z1 z3
        go_wp2_with fail
        refine HAT.out.mono ?_
        rintro e w9 ⟨rfl, hb9⟩
        have hb9' := below_step HB1.out (below_step HB8.out hb9)
        clear HAT hb9 HB8
        go_wp2_with fail
        go_ret
        exact ⟨rfl, hb9'⟩
      · obtain ⟨kk, x, rfl, hTx⟩ := mapOf_nat hx
        have hkK : kk < K := by
          by_cases hl : kk < K
          · exact hl
          · rw [h3.md.fin kk (by omega)] at hTx; cases hTx
        have hKf := h3.md.few
        have HS := hidd (stat_ok w1.heap.size t p r ps rs m N T us ls kk x w3 h3.tb (by omega) hTx)
        have H3 := hidd h3
        have HTX := hidd hTx
        clear HIN h3 hb3 hTx hx
        go_wp2_with fail
        refine HS.out.mono ?_
        rintro e w4 ⟨ga, gc, rfl, -, hb4⟩
        have hA4 := (Below.refl w4.heap.size w4).alloc (Nat.le_refl _) (.cells #[.int .i64 (x.data.size : Int), .int .i64 (x.links : Int), .bool x.exec, .slice ga x.bl.length gc, .int .u32 (crc x.data.data.toList : Nat)] 34)
        have h5 := (H3.out.ob hb4).ob hA4
        go_upto_region 16 with fail
        clear hb4 hA4 HS
        generalize w4.alloc (.cells #[.int .i64 (x.data.size : Int), .int .i64 (x.links : Int), .bool x.exec, .slice ga x.bl.length gc, .int .u32 (crc x.data.data.toList : Nat)] 34) = w5 at *
        have hrd := iread_any w1.heap.size t p r ps rs m N T us ls kk x w5 h5.tb (by omega) HTX.out (h5.tb.s16 h5.sz HTX.out) E codeGs B0 (HE1.out w5 h5.below) (by decide)
        unfold RgPost at hrd
        obtain ⟨RS, RE, hRR⟩ : ∃ (RS RE : Value), (if crc (readB ls x).data.toList = crc x.data.data.toList then Value.tuple #[.string (readB ls x), .nilIface] else .tuple #[.string ⟨#[]⟩, erv E 2]) = .tuple #[RS, RE] := by
          split
          · exact ⟨_, _, rfl⟩
          · exact ⟨_, _, rfl⟩
        rw [hRR] at hrd
        have HRD := hidd hrd
        have H5 := hidd h5
        clear hrd h5 hRR
        go_wp2_with fail
        refine HRD.out.mono ?_
        rintro e w6 ⟨rfl, hb6⟩
        have h6 := H5.out.ob hb6
        have hcd := coded2 E B0 w6 (HE1.out _ h6.below) (HH1.out _ h6.below) (erv E 3) 3 (.inr ⟨2, by decide, rfl, rfl⟩) 3
        rw [show decide (((3 : Nat) : Int) = 3) = true by decide] at hcd
        unfold erv at hcd
        have HCD := hidd hcd
        have H6 := hidd h6
        clear hcd h6 hb6 HRD H5
        go_wp2_with fail
        refine HCD.out.mono ?_
        rintro e w7 ⟨rfl, hb7⟩
        have h7 := H6.out.ob hb7
        have his := rIs_any w7 tm q lv rv K T V ls h7.md (kk : Int) hk
        rw [mapOf_is, HTX.out, Option.isSome_some] at his
        have HIS := hidd his
        have HAT := hidd (asTable_true E B0 w1 w7 t p r ps rs m N tm q lv rv K T V us ls h7 (by omega) HE1.out HH1.out)
        have HB7 := hidd h7.below
        clear his h7 hb7 HCD H6
        go_wp2_with fail
        refine HIS.out.mono ?_
        rintro e w8 ⟨rfl, rfl⟩
        clear HIS
        go_wp2_with fail
        refine HAT.out.mono ?_
        rintro e w9 ⟨rfl, hb9⟩
        have hb9' := below_step HB1.out (below_step HB7.out hb9)
        clear HAT hb9 HB7
        go_wp2_with fail
        go_ret
        exact ⟨rfl, hb9'⟩
end Go.Proofs.YtcpilhembdphoaaGreatDoor
