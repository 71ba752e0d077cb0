/- stillroomlaw2.InodeKeeps, its acts. Condition: the listed variables read as listed. -/
import Derived.Test.YtmcmkocnacdniaaDoorIkP
namespace Go.Proofs.YtmcmkocnacdniaaDoor
open Go.RowKit

/-- An act on a table. -/
structure Filed where
  kind : ByteArray
  s : ByteArray
  ex : Bool
  n : Int
  bit : Int
/-- The argument: a list of acts. -/
def FActs (w : World) (a : Option Addr) (L : List Filed) : Prop :=
  ∀ i (h : i < L.length), ∃ b off, a = some ⟨b, off, none⟩ ∧ w.cell? ⟨b, off + i * 5, none⟩ = some (.string L[i].kind) ∧ w.cell? ⟨b, off + i * 5 + 1, none⟩ = some (.string L[i].s) ∧ w.cell? ⟨b, off + i * 5 + 2, none⟩ = some (.bool L[i].ex) ∧
    w.cell? ⟨b, off + i * 5 + 3, none⟩ = some (.int .i64 L[i].n) ∧ w.cell? ⟨b, off + i * 5 + 4, none⟩ = some (.int .i64 L[i].bit) ∧ -9223372036854775808 ≤ L[i].n ∧ L[i].n ≤ 9223372036854775807

def LfPost (L : List Filed) (w : World) (e : Ending) (w' : World) : Prop := ∃ b : Bool, e = .returned (.bool b) ∧ w = w' ∧ (b = false → L.length ≤ 40 ∧ ∀ i (h : i < L.length), L[i].s.size ≤ 120 ∨ L[i].s.size = 2001)

set_option maxRecDepth 100000 in
set_option maxHeartbeats 2000000 in
theorem longFiles_any (a : Option Addr) (cap : Nat) (L : List Filed) (w : World) (hL : FActs w a L) : Calls Tryd.prog 5 #[.slice a L.length cap] w (LfPost L w) := by
  by_cases h40 : 40 < L.length
  · have h1 : (40 : Int) < (L.length : Int) := by omega
    go_enter Tryd.func5, Tryd.ntmps5
    go_wp2_with fail
    go_ret
    exact ⟨true, rfl, rfl, fun h => by cases h⟩
  · have h1 : ¬ (40 : Int) < (L.length : Int) := by omega
    go_enter Tryd.func5, Tryd.ntmps5
    go_wp2_with fail
    go_loop [3] (fun i => ∃ j : Nat, j ≤ L.length ∧ i = .int .i64 (j : Int) ∧ ∀ k (h : k < L.length), k < j → L[k].s.size ≤ 120 ∨ L[k].s.size = 2001) (fun i => L.length - (intOf i).toNat)
    case atStart => exact ⟨0, Nat.zero_le _, rfl, fun _ _ h => by omega⟩
    case round =>
      obtain ⟨j, hj, rfl, hok⟩ := hrel
      by_cases hlt : j < L.length
      · obtain ⟨b, off, rfl, c0, c1, c2, c3, c4, -⟩ := hL j hlt
        have q1 : (0 : Int) ≤ (j : Int) := by omega
        have q2 : (j : Int) < (L.length : Int) := by omega
        have HO := hidd hok
        by_cases hs : 120 < L[j].s.size
        · have hs1 : (120 : Int) < (L[j].s.size : Int) := by omega
          by_cases ht : L[j].s.size = 2001
          · have ht1 : ((L[j].s.size : Int) != 2001) = false := by simp [ht]
            have ht2 : ((L[j].s.size : Int) == 2001) = true := by simp [ht]
            have HT := hidd ht
            clear ht hok
            generalize hx : L[j] = x at *
            have HX := hidd hx
            clear hx
            go_wp2_with fail
            go_round
            case rel =>
              refine ⟨j + 1, by omega, by go_num, fun k h hk => ?_⟩
              by_cases e : k = j
              · subst e; rw [HX.out]; exact .inr HT.out
              · exact HO.out k h (by omega)
            case measure => simp [intOf]; omega
          · have ht1 : ((L[j].s.size : Int) != 2001) = true := by simp; omega
            have ht2 : ((L[j].s.size : Int) == 2001) = false := by simp; omega
            clear ht hok
            generalize L[j] = x at *
            go_wp2_with fail
            go_ret
            exact ⟨true, rfl, rfl, fun h => by cases h⟩
        · have hs1 : ¬ (120 : Int) < (L[j].s.size : Int) := by omega
          have HT := hidd hs
          clear hs hok
          generalize hx : L[j] = x at *
          have HX := hidd hx
          clear hx
          go_wp2_with fail
          go_round
          case rel =>
            refine ⟨j + 1, by omega, by go_num, fun k h hk => ?_⟩
            by_cases e : k = j
            · subst e; rw [HX.out]; have := HT.out; exact .inl (by omega)
            · exact HO.out k h (by omega)
          case measure => simp [intOf]; omega
      · have HO : Hid (∀ k (h : k < L.length), L[k].s.size ≤ 120 ∨ L[k].s.size = 2001) := hidd (fun k h => hok k h (by omega))
        have hlt1 : ¬ (j : Int) < (L.length : Int) := by omega
        clear hok
        go_wp2_with fail
        go_ret
        exact ⟨false, rfl, rfl, fun _ => ⟨by omega, HO.out⟩⟩

/-- The state between two acts. -/
def IkR (w0 wr : World) (t p r ps rs m n j : Nat) (dv lv : Value) : Prop :=
  ∃ N T us ls Ds Ls, N ≤ j ∧ RwSt w0 wr t p r ps rs m N T us ls dv lv Ds Ls ∧ ValOk T Ds Ls ∧ ls.length = n

set_option maxRecDepth 100000 in
set_option maxHeartbeats 40000000 in
theorem ik_walk (G : List Nat) (hG1 : 0 ∈ G) (hG2 : 1 ∈ G) (hG3 : 4 ∈ G) (E : Nat → Addr) (n : Int) (a : Option Addr) (cap : Nat) (L : List Filed) (w : World) (henv : Env G w.heap.size w E) (hL : FActs w a L) :
    Calls Tryd.prog 3 #[.int .i64 n, .slice a L.length cap] w fun e w' => e = .returned (.bool true) ∧ Below w.heap.size w w' := by
  by_cases hn1 : n < 1
  · go_enter Tryd.func3, Tryd.ntmps3
    go_wp2_with fail
    refine (made_true w).mono ?_
    rintro e w1 ⟨rfl, hb1⟩
    go_wp2_with fail
    go_ret
    exact ⟨rfl, hb1⟩
  by_cases hn2 : 40 < n
  · go_enter Tryd.func3, Tryd.ntmps3
    go_wp2_with fail
    refine (made_true w).mono ?_
    rintro e w1 ⟨rfl, hb1⟩
    go_wp2_with fail
    go_ret
    exact ⟨rfl, hb1⟩
  have HENVW := hidd henv
  obtain ⟨n, rfl⟩ := Int.eq_ofNat_of_zero_le (show 0 ≤ n by omega)
  have hn1' : ¬ n < 1 := by omega
  have hn2' : ¬ 40 < n := by omega
  go_enter Tryd.func3, Tryd.ntmps3
  go_wp2_with fail
  refine (made_true w).mono ?_
  rintro e w1 ⟨rfl, hb1⟩
  have hL1 : FActs w1 a L := fun i h => by
    obtain ⟨b, off, e, c0, c1, c2, c3, c4, c5⟩ := hL i h
    exact ⟨b, off, e, (hb1.cell (World.block_lt_of_cell? w _ c0)).trans c0, (hb1.cell (World.block_lt_of_cell? w _ c1)).trans c1, (hb1.cell (World.block_lt_of_cell? w _ c2)).trans c2, (hb1.cell (World.block_lt_of_cell? w _ c3)).trans c3, (hb1.cell (World.block_lt_of_cell? w _ c4)).trans c4, c5⟩
  go_wp2_with fail
  refine (longFiles_any a cap L w1 hL1).mono ?_
  rintro e w1 ⟨b, rfl, rfl, hlf⟩
  cases b
  case true =>
    go_wp2_with fail
    go_ret
    exact ⟨rfl, hb1⟩
  obtain ⟨hl40, hszs⟩ := hlf rfl
  have HSZ := hidd hszs
  clear hlf hszs
  go_wp2_with fail
  refine (tableOf_ok n w1 (by omega) (by omega)).mono ?_
  rintro e w2 ⟨t, p, r, ps, rs, m, v, rfl, htb, hb2⟩
  have hB2 : Below w.heap.size w w2 := hb1.trans (hb2.mono hb1.size)
  have htb' : TbAt w2 w.heap.size t p r ps rs m 0 (fun _ => none) (List.replicate n false) (List.replicate n (zb 16)) :=
    { htb with base := by have := htb.base; have := hb1.size; omega, bases := fun _ _ h => by cases h }
  have hst : IkR w w2 t p r ps rs m n 0 (.slice none 0 0) (.slice none 0 0) :=
    ⟨0, fun _ => none, _, _, [], [], Nat.le_refl _, ⟨htb', Ow.nil _ _ _ _, Ow.nil _ _ _ _, (fun _ _ _ h => by cases h), hB2⟩, ⟨(fun _ _ h => by cases h), (fun k _ => by rfl), rfl⟩, by simp⟩
  clear htb htb' hb2 hB2 hb1 hL1
  go_wp2_with fail
  go_loopw [9, 10, 11] (fun dv lv i wr => ∃ j : Nat, j ≤ L.length ∧ i = .int .i64 (j : Int) ∧ IkR w wr t p r ps rs m n j dv lv) (fun _ _ i _ => L.length - (intOf i).toNat)
  case atStart => exact ⟨0, Nat.zero_le _, rfl, hst⟩
  case round =>
    obtain ⟨j, hj, rfl, N, T, us, ls, Ds, Ls, hNj, hrw, hval, hlsn⟩ := hrel
    obtain ⟨da, dcap, rfl⟩ := hrw.dat.shape
    obtain ⟨la, lcap, rfl⟩ := hrw.lnk.shape
    by_cases hlt : j < L.length
    · obtain ⟨b, off, rfl, c0, c1, c2, c3, c4, k1, k2⟩ := hL j hlt
      have hB := hrw.below
      rw [← hB.cell (World.block_lt_of_cell? w _ c0)] at c0
      rw [← hB.cell (World.block_lt_of_cell? w _ c1)] at c1
      rw [← hB.cell (World.block_lt_of_cell? w _ c2)] at c2
      rw [← hB.cell (World.block_lt_of_cell? w _ c3)] at c3
      rw [← hB.cell (World.block_lt_of_cell? w _ c4)] at c4
      have hsz := HSZ.out j hlt
      have q1 : (0 : Int) ≤ (j : Int) := by omega
      have q2 : (j : Int) < (L.length : Int) := by omega
      clear hB
      generalize L[j] = x at *
      obtain ⟨xk, xs, xe, xn, xb⟩ := x
      simp only at c0 c1 c2 c3 c4 k1 k2 hsz
      have hba : Below wr.heap.size wr (wr.alloc (.cells #[.string xk, .string xs, .bool xe, .int .i64 xn, .int .i64 xb] 32)) := (Below.refl _ wr).alloc (Nat.le_refl _) _
      have hrw0 := hrw.ob hba
      have hqb := Blk.new wr [.string xk, .string xs, .bool xe, .int .i64 xn, .int .i64 xb] 32
      have henv0 := henv.below hrw0.below (Nat.le_refl _)
      have hE1 := henv0.cell _ hG1
      have hE2 := henv0.cell _ hG2
      have hqN : ¬ tbS p r rs m T wr.heap.size := fun h => by have := hrw.tb.ltS _ h; omega
      have HEQ := hidd hval.eq
      have HRW := hidd hrw0
      have HVAL := hidd hval
      have HENV := hidd henv0
      clear hba hrw henv0
      cases hkm : xk.toList == [109, 97, 107, 101]
      case false =>
        cases hkl : xk.toList == [108, 105, 110, 107]
        case true =>
          by_cases hneg : xn < 0
          · have hx0 : mapOf T xn = none := by unfold mapOf; rw [if_neg (by omega)]
            have hneg1 : ¬ 0 ≤ xn := by omega
            have hno := link_none w.heap.size t p r ps rs m N T us ls xn _ E hrw0.tb ⟨k1, k2⟩ hx0 hE2
            clear hrw0 hval hqb hqN k1 k2
            unfold erv at *
            go_wp2_with fail
            refine hno.mono ?_
            rintro e w9 ⟨rfl, rfl⟩
            go_wp2_with fail
            go_roundw
            case rel => exact ⟨j + 1, by omega, by go_num, N, T, us, ls, Ds, Ls, by omega, HRW.out, HVAL.out, hlsn⟩
            case measure => simp [intOf]; omega
          obtain ⟨kk, rfl⟩ := Int.eq_ofNat_of_zero_le (show 0 ≤ xn by omega)
          have hge : (0 : Int) ≤ (kk : Int) := by omega
          cases hT : T kk with
          | none =>
            have hx0 : mapOf T (kk : Int) = none := by unfold mapOf; rw [if_pos hge]; simp [hT]
            have hl0 := hval.non kk hT
            by_cases hin : kk < Ls.length
            · have hin1 : (kk : Int) < (Ds.length : Int) := by have := HEQ.out; omega
              have hin2 : (kk : Int) < (Ls.length : Int) := by omega
              obtain ⟨lg, loff, rfl, lcell, lfz⟩ := hrw0.lnk.at1 hin
              rw [ints_getD hin, hl0] at lcell
              clear hl0 hT lfz
              have hno := link_none w.heap.size t p r ps rs m N T us ls _ _ E hrw0.tb ⟨k1, k2⟩ hx0 hE2
              clear hrw0 hval hqb hqN k1 k2
              unfold erv at *
              go_wp2_with fail
              refine hno.mono ?_
              rintro e w9 ⟨rfl, rfl⟩
              go_wp2_with fail
              go_roundw
              case rel => exact ⟨j + 1, by omega, by go_num, N, T, us, ls, Ds, Ls, by omega, HRW.out, HVAL.out, hlsn⟩
              case measure => simp [intOf]; omega
            · have hin1 : ¬ (kk : Int) < (Ds.length : Int) := by have := HEQ.out; omega
              clear hl0 hT
              have hno := link_none w.heap.size t p r ps rs m N T us ls _ _ E hrw0.tb ⟨k1, k2⟩ hx0 hE2
              clear hrw0 hval hqb hqN k1 k2
              unfold erv at *
              go_wp2_with fail
              refine hno.mono ?_
              rintro e w9 ⟨rfl, rfl⟩
              go_wp2_with fail
              go_roundw
              case rel => exact ⟨j + 1, by omega, by go_num, N, T, us, ls, Ds, Ls, by omega, HRW.out, HVAL.out, hlsn⟩
              case measure => simp [intOf]; omega
          | some y =>
            obtain ⟨v1, v2, v3⟩ := hval.has kk y hT
            have hyo := hrw0.tb.ok kk y hT
            obtain ⟨lg, loff, rfl, lcell, lfz⟩ := hrw0.lnk.at1 v1
            rw [ints_getD v1, v2] at lcell
            have hin1 : (kk : Int) < (Ds.length : Int) := by have := HEQ.out; omega
            have hin2 : (kk : Int) < (Ls.length : Int) := by omega
            have hpos : (0 : Int) < (y.links : Int) := by have := hyo.pos; omega
            have hdp1 : decide ((0 : Int) < (y.links : Int)) = true := decide_eq_true hpos
            have hdp2 : decide (0 < y.links) = true := decide_eq_true (by omega)
            have hpos2 := hyo.pos
            have hkN : kk < N := by
              obtain ⟨K, hK, hf⟩ := hrw0.tb.fin
              rcases Nat.lt_or_ge kk K with h | h
              · omega
              · rw [hf kk h] at hT; cases hT
            have hbigl := hyo.big
            have HAF : Hid (∀ w9, TbAt w9 w.heap.size t p r ps rs m (N + 1) (upd T kk (some { y with links := y.links + 1 })) us ls → Fr (tbS p r rs m T) (wr.alloc (.cells #[.string xk, .string xs, .bool xe, .int .i64 (kk : Int), .int .i64 xb] 32)) w9 →
              RwSt w w9 t p r ps rs m (N + 1) (upd T kk (some { y with links := y.links + 1 })) us ls (.slice da Ds.length dcap) (.slice (some ⟨lg, loff, none⟩) Ls.length lcap) Ds Ls ∧ w9.cell? ⟨wr.heap.size, 0, none⟩ = some (.string xk) ∧ w9.cell? ⟨wr.heap.size, 3, none⟩ = some (.int .i64 (kk : Int)) ∧ w9.cell? ⟨lg, loff + kk, none⟩ = some (.int .i64 (y.links : Int)) ∧ w9.frozen? ⟨lg, loff + kk, none⟩ = false) := hidd (fun w9 htb9 hf9 => by
              have hr9 := hrw0.op htb9 hf9 (fun i z hz => by
                by_cases e : i = kk
                · subst e; rw [upd_same] at hz; cases hz; exact .inl ⟨i, y, hT, rfl⟩
                · rw [upd_other _ _ _ e] at hz; exact .inl ⟨i, z, hz, rfl⟩)
              have hq9 := hqb.fr hf9 hqN
              obtain ⟨g9, o9, e9, lc9, lf9⟩ := hr9.lnk.at1 v1
              injection e9 with e9
              injection e9 with e9 e10 _
              subst e9 e10
              rw [ints_getD v1, v2] at lc9
              exact ⟨hr9, hq9.cell rfl, hq9.cell rfl, lc9, lf9 _⟩)
            have hcall := link_ok w.heap.size t p r ps rs m N T us ls kk y _ hrw0.tb (by omega) (by omega) hT
            have hwr : IntKind.i64.wrap ((y.links : Int) + 1) = ((y.links + 1 : Nat) : Int) := by rw [i64_in _ (by omega)]; omega
            have HT := hidd hT
            have hN9 : (N + 1) ≤ j + 1 := by omega
            clear hrw0 hval hqb hqN k1 k2 hyo lfz v3 hT
            go_wp2_with fail
            refine hcall.mono ?_
            rintro e w9 ⟨rfl, htb9, hf9⟩
            obtain ⟨hr9, z0, z3, zl, zf⟩ := HAF.out w9 htb9 hf9
            have HR := hidd (hr9.putL rfl v1 (y.links + 1))
            clear htb9 hf9 hcall hr9 v2
            go_wp2_with fail
            go_roundw
            case rel => exact ⟨j + 1, by omega, by go_num, (N + 1), _, us, ls, Ds, _, hN9, HR.out, HVAL.out.relink HT.out (y.links + 1), hlsn⟩
            case measure => simp [intOf]; omega
        case false =>
          cases hku : xk.toList == [117, 110, 108, 105, 110, 107]
          case true =>
            by_cases hneg : xn < 0
            · have hx0 : mapOf T xn = none := by unfold mapOf; rw [if_neg (by omega)]
              have hneg1 : ¬ 0 ≤ xn := by omega
              have hno := unlink_none w.heap.size t p r ps rs m N T us ls xn _ E hrw0.tb ⟨k1, k2⟩ hx0 hE2
              clear hrw0 hval hqb hqN k1 k2
              unfold erv at *
              go_wp2_with fail
              refine hno.mono ?_
              rintro e w9 ⟨rfl, rfl⟩
              go_wp2_with fail
              go_roundw
              case rel => exact ⟨j + 1, by omega, by go_num, N, T, us, ls, Ds, Ls, by omega, HRW.out, HVAL.out, hlsn⟩
              case measure => simp [intOf]; omega
            obtain ⟨kk, rfl⟩ := Int.eq_ofNat_of_zero_le (show 0 ≤ xn by omega)
            have hge : (0 : Int) ≤ (kk : Int) := by omega
            cases hT : T kk with
            | none =>
              have hx0 : mapOf T (kk : Int) = none := by unfold mapOf; rw [if_pos hge]; simp [hT]
              have hl0 := hval.non kk hT
              by_cases hin : kk < Ls.length
              · have hin1 : (kk : Int) < (Ds.length : Int) := by have := HEQ.out; omega
                have hin2 : (kk : Int) < (Ls.length : Int) := by omega
                obtain ⟨lg, loff, rfl, lcell, lfz⟩ := hrw0.lnk.at1 hin
                rw [ints_getD hin, hl0] at lcell
                clear hl0 hT lfz
                have hno := unlink_none w.heap.size t p r ps rs m N T us ls _ _ E hrw0.tb ⟨k1, k2⟩ hx0 hE2
                clear hrw0 hval hqb hqN k1 k2
                unfold erv at *
                go_wp2_with fail
                refine hno.mono ?_
                rintro e w9 ⟨rfl, rfl⟩
                go_wp2_with fail
                go_roundw
                case rel => exact ⟨j + 1, by omega, by go_num, N, T, us, ls, Ds, Ls, by omega, HRW.out, HVAL.out, hlsn⟩
                case measure => simp [intOf]; omega
              · have hin1 : ¬ (kk : Int) < (Ds.length : Int) := by have := HEQ.out; omega
                clear hl0 hT
                have hno := unlink_none w.heap.size t p r ps rs m N T us ls _ _ E hrw0.tb ⟨k1, k2⟩ hx0 hE2
                clear hrw0 hval hqb hqN k1 k2
                unfold erv at *
                go_wp2_with fail
                refine hno.mono ?_
                rintro e w9 ⟨rfl, rfl⟩
                go_wp2_with fail
                go_roundw
                case rel => exact ⟨j + 1, by omega, by go_num, N, T, us, ls, Ds, Ls, by omega, HRW.out, HVAL.out, hlsn⟩
                case measure => simp [intOf]; omega
            | some y =>
              obtain ⟨v1, v2, v3⟩ := hval.has kk y hT
              have hyo := hrw0.tb.ok kk y hT
              obtain ⟨lg, loff, rfl, lcell, lfz⟩ := hrw0.lnk.at1 v1
              rw [ints_getD v1, v2] at lcell
              have hin1 : (kk : Int) < (Ds.length : Int) := by have := HEQ.out; omega
              have hin2 : (kk : Int) < (Ls.length : Int) := by omega
              have hpos : (0 : Int) < (y.links : Int) := by have := hyo.pos; omega
              have hdp1 : decide ((0 : Int) < (y.links : Int)) = true := decide_eq_true hpos
              have hdp2 : decide (0 < y.links) = true := decide_eq_true (by omega)
              have hpos2 := hyo.pos
              have hkN : kk < N := by
                obtain ⟨K, hK, hf⟩ := hrw0.tb.fin
                rcases Nat.lt_or_ge kk K with h | h
                · omega
                · rw [hf kk h] at hT; cases hT
              have hbigl := hyo.big
              by_cases hone : y.links = 1
              · have HAF : Hid (∀ w9, TbAt w9 w.heap.size t p r ps rs m N (upd T kk none) (giv us y.bl) ls → Fr (tbS p r rs m T) (wr.alloc (.cells #[.string xk, .string xs, .bool xe, .int .i64 (kk : Int), .int .i64 xb] 32)) w9 →
                  RwSt w w9 t p r ps rs m N (upd T kk none) (giv us y.bl) ls (.slice da Ds.length dcap) (.slice (some ⟨lg, loff, none⟩) Ls.length lcap) Ds Ls ∧ w9.cell? ⟨wr.heap.size, 0, none⟩ = some (.string xk) ∧ w9.cell? ⟨wr.heap.size, 3, none⟩ = some (.int .i64 (kk : Int)) ∧ w9.cell? ⟨lg, loff + kk, none⟩ = some (.int .i64 (y.links : Int)) ∧ w9.frozen? ⟨lg, loff + kk, none⟩ = false) := hidd (fun w9 htb9 hf9 => by
                  have hr9 := hrw0.op htb9 hf9 (fun i z hz => by
                    by_cases e : i = kk
                    · subst e; rw [upd_same] at hz; cases hz
                    · rw [upd_other _ _ _ e] at hz; exact .inl ⟨i, z, hz, rfl⟩)
                  have hq9 := hqb.fr hf9 hqN
                  obtain ⟨g9, o9, e9, lc9, lf9⟩ := hr9.lnk.at1 v1
                  injection e9 with e9
                  injection e9 with e9 e10 _
                  subst e9 e10
                  rw [ints_getD v1, v2] at lc9
                  exact ⟨hr9, hq9.cell rfl, hq9.cell rfl, lc9, lf9 _⟩)
                have hcall := unlink_last w.heap.size t p r ps rs m N T us ls kk y _ hrw0.tb (by omega) hT hone
                have hwr : IntKind.i64.wrap ((y.links : Int) - 1) = ((0 : Nat) : Int) := by rw [i64_in _ (by omega)]; omega
                have HT := hidd hT
                have hN9 : N ≤ j + 1 := by omega
                clear hrw0 hval hqb hqN k1 k2 hyo lfz v3 hT
                go_wp2_with fail
                refine hcall.mono ?_
                rintro e w9 ⟨rfl, htb9, hf9⟩
                obtain ⟨hr9, z0, z3, zl, zf⟩ := HAF.out w9 htb9 hf9
                have HR := hidd (hr9.putL rfl v1 (0))
                clear htb9 hf9 hcall hr9 v2
                go_wp2_with fail
                go_roundw
                case rel => exact ⟨j + 1, by omega, by go_num, N, _, (giv us y.bl), ls, Ds, _, hN9, HR.out, HVAL.out.drop HT.out, hlsn⟩
                case measure => simp [intOf]; omega
              · obtain ⟨l, hl⟩ : ∃ l, y.links = l + 1 := ⟨y.links - 1, by omega⟩
                have HAF : Hid (∀ w9, TbAt w9 w.heap.size t p r ps rs m (N + 1) (upd T kk (some { y with links := l })) us ls → Fr (tbS p r rs m T) (wr.alloc (.cells #[.string xk, .string xs, .bool xe, .int .i64 (kk : Int), .int .i64 xb] 32)) w9 →
                  RwSt w w9 t p r ps rs m (N + 1) (upd T kk (some { y with links := l })) us ls (.slice da Ds.length dcap) (.slice (some ⟨lg, loff, none⟩) Ls.length lcap) Ds Ls ∧ w9.cell? ⟨wr.heap.size, 0, none⟩ = some (.string xk) ∧ w9.cell? ⟨wr.heap.size, 3, none⟩ = some (.int .i64 (kk : Int)) ∧ w9.cell? ⟨lg, loff + kk, none⟩ = some (.int .i64 (y.links : Int)) ∧ w9.frozen? ⟨lg, loff + kk, none⟩ = false) := hidd (fun w9 htb9 hf9 => by
                  have hr9 := hrw0.op htb9 hf9 (fun i z hz => by
                    by_cases e : i = kk
                    · subst e; rw [upd_same] at hz; cases hz; exact .inl ⟨i, y, hT, rfl⟩
                    · rw [upd_other _ _ _ e] at hz; exact .inl ⟨i, z, hz, rfl⟩)
                  have hq9 := hqb.fr hf9 hqN
                  obtain ⟨g9, o9, e9, lc9, lf9⟩ := hr9.lnk.at1 v1
                  injection e9 with e9
                  injection e9 with e9 e10 _
                  subst e9 e10
                  rw [ints_getD v1, v2] at lc9
                  exact ⟨hr9, hq9.cell rfl, hq9.cell rfl, lc9, lf9 _⟩)
                have hcall := unlink_more w.heap.size t p r ps rs m N T us ls kk y _ hrw0.tb (by omega) (by omega) hT l hl (by omega)
                have hwr : IntKind.i64.wrap ((y.links : Int) - 1) = ((l : Nat) : Int) := by rw [i64_in _ (by omega)]; omega
                have HT := hidd hT
                have HL := hidd hl
                clear hl hone
                have hN9 : (N + 1) ≤ j + 1 := by omega
                clear hrw0 hval hqb hqN k1 k2 hyo lfz v3 hT
                go_wp2_with fail
                refine hcall.mono ?_
                rintro e w9 ⟨rfl, htb9, hf9⟩
                obtain ⟨hr9, z0, z3, zl, zf⟩ := HAF.out w9 htb9 hf9
                have HR := hidd (hr9.putL rfl v1 (l))
                clear htb9 hf9 hcall hr9 v2
                go_wp2_with fail
                go_roundw
                case rel => exact ⟨j + 1, by omega, by go_num, (N + 1), _, us, ls, Ds, _, hN9, HR.out, HVAL.out.relink HT.out l, hlsn⟩
                case measure => simp [intOf]; omega
          case false =>
            clear hrw0 hval hqb hqN k1 k2
            go_wp2_with fail
            go_roundw
            case rel => exact ⟨j + 1, by omega, by go_num, N, T, us, ls, Ds, Ls, by omega, HRW.out, HVAL.out, hlsn⟩
            case measure => simp [intOf]; omega
      case true =>
        have hy1 : ∀ i z, T i = some z → T i = some z := fun _ _ h => h
        by_cases hbig : 2000 < xs.size
        · have hmb := make_big (.pointer (some ⟨t, 0, none⟩)) xs xe _ E hbig hE1
          clear hrw0 hval hqb hqN k1 k2 hy1
          unfold erv at *
          go_wp2_with fail
          refine hmb.mono ?_
          rintro e w9 ⟨rfl, hb9⟩
          have HR := hidd (HRW.out.ob hb9)
          clear hmb hb9
          go_wp2_with fail
          go_roundw
          case rel => exact ⟨j + 1, by omega, by go_num, N, T, us, ls, Ds, Ls, by omega, HR.out, HVAL.out, hlsn⟩
          case measure => simp [intOf]; omega
        by_cases hroom : needN xs.size ≤ nfree us
        case neg =>
          have hmf := make_full w.heap.size t p r ps rs m N T us ls xs xe _ hrw0.tb (by omega) hroom E G _ HENV.out hG3
          clear hrw0 hval hqb hqN k1 k2 hy1 hroom
          unfold erv at *
          go_wp2_with fail
          refine hmf.mono ?_
          rintro e w9 ⟨rfl, hb9⟩
          have HR := hidd (HRW.out.ob hb9)
          clear hmf hb9
          go_wp2_with fail
          go_roundw
          case rel => exact ⟨j + 1, by omega, by go_num, N, T, us, ls, Ds, Ls, by omega, HR.out, HVAL.out, hlsn⟩
          case measure => simp [intOf]; omega
        have hmk := make_ok w.heap.size t p r ps rs m N T us ls xs xe _ hrw0.tb (by omega) hrw0.below.size (by omega) hroom
        have hMrw := HRW.out
        clear hrw0 k1 k2 hy1 hroom hval
        go_wp2_with fail
        refine hmk.mono ?_
        rintro e w9 ⟨k0, y, rfl, hk0N, hk0, hk0l, hyd, hye, hyl, hybl, htb9, hf9, hfresh⟩
        have hf9' : Fr (tbS p r rs m T) _ w9 := hf9.mono (fun i _ hi => by rcases hi with e | e | e | e; exact .inl e; exact .inr (.inl e); exact .inr (.inr (.inl e)); exact .inr (.inr (.inr (.inl e))))
        have hr9 := hMrw.op htb9 hf9' (fun i z hz => by
          by_cases e : i = k0
          · subst e; rw [upd_same] at hz; cases hz; exact .inr hfresh
          · rw [upd_other _ _ _ e] at hz; exact .inl ⟨i, z, hz, rfl⟩)
        have hq9 := hqb.fr hf9' hqN
        have HLS : Hid ((lsN ls y.bl xs y.bl.length).length = n) := hidd (by rw [lsN_len]; exact hlsn)
        generalize lsN ls y.bl xs y.bl.length = ls9 at *
        generalize (tk us (needN xs.size) us.length).2 = us9 at *
        obtain ⟨T9, hT9⟩ : ∃ T9, T9 = upd T k0 (some y) := ⟨_, rfl⟩
        rw [← hT9] at hr9
        have HT9 := hidd hT9
        have HY := hidd (And.intro hyd hyl)
        have HK0 := hidd hk0
        have hk0b : k0 ≤ 40 := by omega
        clear hmk hMrw htb9 hf9 hf9' hfresh hqb hqN hT9 hyd hye hyl hybl hk0 hk0l
        have hst9 : RwSt w w9 t p r ps rs m (N + 1) T9 us9 ls9 (.slice da Ds.length dcap) (.slice la Ls.length lcap) Ds Ls := hr9
        clear hr9
        go_wp2_with fail
        generalize hwq : wr.heap.size = q at *
        clear hwq
        go_loopw [9, 10] (fun dv lv wr => ∃ Ds2 Ls2, RwSt w wr t p r ps rs m (N + 1) T9 us9 ls9 dv lv Ds2 Ls2 ∧ ValOk T Ds2 Ls2 ∧ Blk wr q [.string xk, .string xs, .bool xe, .int .i64 xn, .int .i64 xb] 32 ∧ Ds2.length ≤ max Ds.length 41) (fun dv _ _ => k0 + 1 - lenV dv)
        case atStart => exact ⟨Ds, Ls, hst9, HVAL.out, hq9, by omega⟩
        case round =>
          obtain ⟨Ds2, Ls2, hr2, hv2, hq2, hmax⟩ := hrel
          obtain ⟨da2, dc2, rfl⟩ := hr2.dat.shape
          obtain ⟨la2, lc2, rfl⟩ := hr2.lnk.shape
          have heq2 := hv2.eq
          have HEQ2 := hidd heq2
          clear heq2
          by_cases hle : Ds2.length ≤ k0
          · have hle1 : (Ds2.length : Int) ≤ (k0 : Int) := by omega
            obtain ⟨iS, hiS, hS0, hS1, hS2⟩ := info_parts infoS
            obtain ⟨iI, hiI, hI0, hI1, hI2⟩ := info_parts infoI
            have hr3 := hr2.ob ((Below.refl _ wr).alloc (Nat.le_refl _) (.cells #[.string ⟨#[]⟩] 9))
            have how := hr3.dat
            have hs1 := Src.new (P := Tryd.prog) (size := 1) (tx := 29) Tryd.underlying29 wr wr.heap.size rfl [.string ⟨#[]⟩] 9 rfl (by intro u hu; simp at hu; subst hu; rfl) 1
            have hq3 := hq2.alloc (.cells #[.string ⟨#[]⟩] 9)
            have HRL : Hid (r < wr.heap.size ∧ w.heap.size ≤ wr.heap.size) := hidd ⟨hr2.tb.dk.row.lt, hr2.below.size⟩
            clear hr2 hq2
            go_wp2_with (at_builtin; refine wpList_append_ow _ rfl _ _ 29 29 rfl (fun g => g ≠ r ∧ w.heap.size ≤ g) ?cF 9 iS _ 1 16 Tryd.underlying29 hiS hS0 hS1 hS2 rfl (by decide) _ _ _ rfl how _ _ _ rfl hs1 ?c3 ?c4 ?_)
            case cF => intro g hg; have := HRL.out; simp at hg; exact ⟨by omega, by omega⟩
            case c3 => unfold maxLen; omega
            case c4 => omega
            intro v' w3 hown' hgrow
            have hr4 := hr3.newD (Ds' := Ds2 ++ [ByteArray.empty]) (dv' := v') ((Fr.refl (fun b => (Value.slice da2 Ds2.length dc2).ownBlock = some b) _).grown hgrow (fun k hk => .inl hk)) (by rw [List.length_append, List.map_append]; exact hown')
            obtain ⟨a', c', rfl⟩ := hown'.shape
            have hq4 := hq3.grown hgrow (fun e => own_ne how hq3 (by decide) e.symm)
            have hr5 := hr4.ob ((Below.refl _ w3).alloc (Nat.le_refl _) (.cells #[.int .i64 0] 3))
            have hq5 := hq4.alloc (.cells #[.int .i64 0] 3)
            have how5 := hr5.lnk.self (w3.alloc (.cells #[.int .i64 0] 3)).heap.size
            have hs2 := Src.new (P := Tryd.prog) (size := 1) (tx := 30) Tryd.underlying30 w3 w3.heap.size rfl [.int .i64 0] 3 rfl (by intro u hu; simp at hu; subst hu; rfl) 1
            have HRL2 : Hid (w.heap.size ≤ w3.heap.size) := hidd hr4.below.size
            clear hown' hgrow hr4 hq4 how hs1 hq3 hr3
            go_wp2_with (at_builtin; refine wpList_append_ow _ rfl _ _ 30 30 rfl (fun g => w.heap.size ≤ g ∧ ((Value.slice la2 Ls2.length lc2).ownBlock = some g ∨ (w3.alloc (.cells #[.int .i64 0] 3)).heap.size ≤ g)) ?cF 3 iI _ 1 8 Tryd.underlying30 hiI hI0 hI1 hI2 rfl (by decide) _ _ _ rfl how5 _ _ _ rfl hs2 ?c3 ?c4 ?_)
            case cF => intro g hg; have := HRL2.out; simp at hg ⊢; exact ⟨by omega, .inr (by omega)⟩
            case c3 => have := HEQ2.out; unfold maxLen; omega
            case c4 => have := HEQ2.out; omega
            intro v'' w4 hown'' hgrow2
            have hr6 := hr5.newL (Ls' := Ls2 ++ [0]) (lv' := v'') ((Fr.refl (fun b => (Value.slice la2 Ls2.length lc2).ownBlock = some b) _).grown hgrow2 (fun k hk => .inl hk)) (by rw [ints_snoc, List.length_append]; exact hown''.mono (fun g hg => hg.1)) (fun g hg => by have := (hown''.blk g hg).1.2; simpa using this)
            obtain ⟨a'', c'', rfl⟩ := hown''.shape
            have hq6 := hq5.grown hgrow2 (fun e => own_ne how5 hq5 (by decide) e.symm)
            have HR6 := hidd hr6
            have HV6 := hidd hv2.push
            have HQ6 := hidd hq6
            clear hown'' hgrow2 hr5 hq5 how5 hs2 hr6 hq6 hv2
            go_wp2_with fail
            go_roundw
            case rel =>
              refine ⟨Ds2 ++ [ByteArray.empty], Ls2 ++ [0], ?_, HV6.out, HQ6.out, by simp; omega⟩
              first | exact HR6.out | simpa using HR6.out
            case measure => simp [lenV]; omega
          · have hle1 : ¬ (Ds2.length : Int) ≤ (k0 : Int) := by omega
            have hkl : k0 < Ls2.length := by have := HEQ2.out; omega
            have hkd : k0 < Ds2.length := by omega
            obtain ⟨lg, loff, rfl, lcell, lfz⟩ := hr2.lnk.at1 hkl
            rw [ints_getD hkl, hv2.non k0 HK0.out] at lcell
            obtain ⟨dg, doff, rfl, dcell, dfz⟩ := hr2.dat.at1 hkd
            have p1 : (0 : Int) ≤ (k0 : Int) := by omega
            have p2 : (k0 : Int) < (Ds2.length : Int) := by omega
            have p3 : (k0 : Int) < (Ls2.length : Int) := by omega
            have z1 := hq2.cell (i := 1) (v := .string xs) rfl
            have hr7 := hr2.putD rfl hkd xs
            have dfk := dfz (doff + k0)
            obtain ⟨g8, o8, e8, lcell8, lfz8⟩ := hr7.lnk.at1 hkl
            injection e8 with e8
            injection e8 with e8 e9 _
            subst e8 e9
            have lfk := lfz8 (loff + k0)
            have HR8 := hidd (hr7.putL rfl hkl 1)
            have HV8 : Hid (ValOk T9 (Ds2.set k0 xs) (Ls2.set k0 1)) := hidd (by
              have := hv2.put hkl y
              rw [HY.out.1, HY.out.2] at this
              rw [HT9.out]; exact this)
            rw [ints_getD hkl] at lcell8
            clear hr2 hv2 hq2 hr7 lfz dfz lfz8
            go_wp2_with fail
            go_roundw
            case rel => exact ⟨j + 1, by omega, by go_num, N + 1, T9, us9, ls9, Ds2.set k0 xs, Ls2.set k0 1, by omega, by have := HR8.out; simpa using this, HV8.out, HLS.out⟩
            case measure => simp [intOf]; omega
    · obtain rfl : j = L.length := by omega
      have hjl : ¬ ((L.length : Int) < (L.length : Int)) := by omega
      have hus : us.length = n := by rw [hrw.tb.len]; exact hlsn
      have heq := hval.eq
      have hDs := hrw.dat.sl.le
      obtain ⟨iB, hiB, hz0, hz1, hz2⟩ := info_parts infoB
      have hmk := run_makeSlice (P := Tryd.prog) wr 38 4 iB (.bool false) Tryd.underlying38 hiB hz0 .i64 .i64 (n : Int) (n : Int) (by omega) (Int.le_refl _) (by rw [hz1]; simp; omega) (by rw [hz2]; omega) (by omega)
      rw [Int.toNat_natCast, hz1] at hmk
      have hcs : madeCells (Value.bool false).cells (n * 1) = ((List.replicate n false).map Value.bool).toArray := by
        apply Array.toList_inj.1
        rw [Nat.mul_one, show (Value.bool false).cells = #[Value.bool false] from rfl, toList_madeCells_one]
        simp
      rw [hcs, seenB_nil] at hmk
      have HEQ := hidd heq
      have HUS := hidd hus
      have HRW := hidd hrw
      have HVAL := hidd hval
      have hub := Blk.new wr (seenB n []) 4
      have hB0 : Below wr.heap.size wr (wr.alloc (.cells (seenB n []).toArray 4)) := (Below.refl _ wr).alloc (Nat.le_refl _) _
      generalize hsb : seenB n [] = C at *
      have HSB := hidd hsb
      clear hsb hiB hz0 hz1 hz2 hcs hrw hval heq hus hlt
      go_wp2_with fail
      generalize hZ : wr.heap.size = Z at *
      have HZ := hidd hZ
      clear hZ
      generalize wr = wU at *
      go_loopw [18, 19] (fun bv kv wr => ∃ k : Nat, k ≤ Ds.length ∧ kv = .int .i64 (k : Int) ∧ bv = .int .i64 (((flT T k).length : Nat) : Int) ∧ Blk wr Z (seenB n (flT T k)) 4 ∧ Below Z wU wr) (fun _ kv _ => Ds.length - (intOf kv).toNat)
      case atStart => exact ⟨0, Nat.zero_le _, rfl, rfl, by rw [show flT T 0 = [] from rfl, HSB.out]; exact hub, hB0⟩
      case round =>
        obtain ⟨k, hk, rfl, rfl, hbk, hbw⟩ := hrel
        have hrk : RwSt w wr t p r ps rs m N T us ls (.slice da Ds.length dcap) (.slice la Ls.length lcap) Ds Ls := HRW.out.ob (by rw [HZ.out]; exact hbw)
        by_cases hlt : k < Ds.length
        · have hlt2 : k < Ls.length := by have := HEQ.out; omega
          have q1 : (0 : Int) ≤ (k : Int) := by omega
          have q2 : (k : Int) < (Ds.length : Int) := by omega
          have q3 : (k : Int) < (Ls.length : Int) := by omega
          have hE2 := (HENVW.out.below hrk.below (Nat.le_refl _)).cell _ hG2
          cases hT : T k with
          | none =>
            have hno := read_none w.heap.size t p r ps rs m N T us ls (k : Int) wr E hrk.tb (by omega) (by unfold mapOf; rw [if_pos q1]; simp [hT]) hE2
            have HAF : Hid (∀ w9, Below wr.heap.size wr w9 → ∃ lg loff, la = some ⟨lg, loff, none⟩ ∧ w9.cell? ⟨lg, loff + k, none⟩ = some (.int .i64 0)) := hidd (fun w9 h9 => by
              obtain ⟨lg, loff, e, lc, -⟩ := (hrk.ob h9).lnk.at1 hlt2
              rw [ints_getD hlt2, HVAL.out.non k hT] at lc
              exact ⟨lg, loff, e, lc⟩)
            have hbk9 : Hid (∀ w9, Below wr.heap.size wr w9 → Blk w9 Z (seenB n (flT T k)) 4 ∧ Below Z wU w9) := hidd (fun w9 h9 => ⟨hbk.below h9 hbk.lt, hbw.trans (h9.mono (Nat.le_of_lt hbk.lt))⟩)
            have HFN := hidd (flT_none hT)
            clear hrk hbk hbw hT
            unfold erv at *
            go_wp2_with fail
            refine hno.mono ?_
            rintro e w9 ⟨rfl, hb9⟩
            obtain ⟨lg, loff, rfl, lc⟩ := HAF.out w9 hb9
            obtain ⟨g1, g2⟩ := hbk9.out w9 hb9
            clear hno hb9
            go_wp2_with fail
            go_roundw
            case rel => exact ⟨k + 1, hlt, by go_num, by rw [show flT T (k + 1) = flT T k from HFN.out], by rw [show flT T (k + 1) = flT T k from HFN.out]; exact g1, g2⟩
            case measure => simp [intOf]; omega
          | some x =>
            have hkN : k ≤ 40 := by
              obtain ⟨K, hK, hf⟩ := hrk.tb.fin
              rcases Nat.lt_or_ge k K with h | h
              · omega
              · rw [hf k h] at hT; cases hT
            obtain ⟨v1, v2, v3⟩ := HVAL.out.has k x hT
            have hxo := hrk.tb.ok k x hT
            have hrd := iread_ok w.heap.size t p r ps rs m N T us ls k x wr hrk.tb (by omega) hT
            have HST : Hid (∀ w9, Below wr.heap.size wr w9 → Calls Tryd.prog 11 #[.pointer (some ⟨t, 0, none⟩), .int .i64 (k : Int)] w9 (StPost x w9)) := hidd (fun w9 h9 =>
              stat_ok w.heap.size t p r ps rs m N T us ls k x w9 (hrk.ob h9).tb (by omega) hT)
            obtain ⟨lg, loff, rfl, -, -⟩ := hrk.lnk.at1 v1
            obtain ⟨dg, doff, rfl, -, -⟩ := hrk.dat.at1 hlt
            have HAF : Hid (∀ w9, Below wr.heap.size wr w9 → w9.cell? ⟨lg, loff + k, none⟩ = some (.int .i64 (x.links : Int)) ∧ w9.cell? ⟨dg, doff + k, none⟩ = some (.string x.data) ∧ Blk w9 Z (seenB n (flT T k)) 4 ∧ Below Z wU w9) := hidd (fun w9 h9 => by
              obtain ⟨g1, o1, e1, lc, -⟩ := (hrk.ob h9).lnk.at1 v1
              injection e1 with e1
              injection e1 with e1 e2 _
              subst e1 e2
              rw [ints_getD v1, v2] at lc
              obtain ⟨g1, o1, e1, dc, -⟩ := (hrk.ob h9).dat.at1 hlt
              injection e1 with e1
              injection e1 with e1 e2 _
              subst e1 e2
              rw [strs_getD hlt, v3] at dc
              exact ⟨lc, dc, hbk.below h9 hbk.lt, hbw.trans (h9.mono (Nat.le_of_lt hbk.lt))⟩)
            have HND : Hid (∀ W, Calls Tryd.prog 12 #[.int .i64 (x.data.size : Int)] W fun e w' => e = .returned (.int .i64 (x.bl.length : Int)) ∧ W = w') := hidd (fun W => by rw [hxo.len]; exact need_nat _ W hxo.size)
            have HFN := hidd (flT_some hT)
            have HNOD : Hid ((flT T k ++ x.bl).Nodup) := hidd (by rw [← flT_some hT]; exact hrk.tb.flN (k + 1))
            have HINR : Hid (∀ b ∈ x.bl, b < n) := hidd (fun b hb => by have := hxo.inr b hb; omega)
            have hl0 : ((x.links : Int) == 0) = false := by have := hxo.pos; simp; omega
            have hl1 : ((x.links : Int) != (x.links : Int)) = false := by simp
            have hd0 : (x.data.toList != x.data.toList) = false := by simp
            have hlk0 : ¬ x.links = 0 := by have := hxo.pos; omega
            have hbl125 : x.bl.length ≤ 125 := by rw [hxo.len]; exact needN_le _ hxo.size
            have hFL : (flT T k).length ≤ 1000000 := by
              have h1 := hrk.tb.flN k
              have : (flT T k).length ≤ n := by
                have h2 := nodup_len (flT T k) (List.range n) h1 (fun b hb => by
                  obtain ⟨k', y, -, hy, hm⟩ := mem_flT.1 hb
                  have := (hrk.tb.ok k' y hy).inr b hm
                  rw [List.mem_range]; omega)
                simpa using h2
              omega
            have hZb : Z < wr.heap.size := hbk.lt
            clear hrk hbk hbw hxo v2 v3 hT hE2
            go_wp2_with fail
            refine hrd.mono ?_
            rintro e w9 ⟨rfl, hb9⟩
            obtain ⟨lc9, dc9, -, -⟩ := HAF.out w9 hb9
            have hst9 := HST.out w9 hb9
            clear hrd
            go_wp2_with fail
            refine hst9.mono ?_
            rintro e w10 ⟨sa, scap, rfl, ho10, hb10⟩
            have hb10' := hb9.trans (hb10.mono hb9.size)
            have hb11 := hb10'.alloc hb10'.size (.cells #[.int .i64 (x.data.size : Int), .int .i64 (x.links : Int), .bool x.exec, .slice sa x.bl.length scap, .int .u32 (crc x.data.data.toList : Nat)] 43)
            have ho11 := ho10.alloc (.cells #[.int .i64 (x.data.size : Int), .int .i64 (x.links : Int), .bool x.exec, .slice sa x.bl.length scap, .int .u32 (crc x.data.data.toList : Nat)] 43)
            have hq11 := Blk.new w10 [.int .i64 (x.data.size : Int), .int .i64 (x.links : Int), .bool x.exec, .slice sa x.bl.length scap, .int .u32 (crc x.data.data.toList : Nat)] 43
            have hzq : Z ≠ w10.heap.size := by have := hb10'.size; omega
            have hzo : ∀ g, (Value.slice sa x.bl.length scap).ownBlock = some g → g ≠ Z := fun g hg => by have := (ho10.blk g hg).1; have := hb9.size; omega
            obtain ⟨lc11, dc11, hbk11, hbw11⟩ := HAF.out _ hb11
            clear hst9 hb9 hb10 hb10' hb11 ho10 lc9 dc9
            go_wp2_with fail
            generalize hW : w10.alloc _ = W11 at *
            generalize w10.heap.size = q at *
            clear hW
            have e1 : W11.drew.cell? ⟨lg, loff + k, none⟩ = some (.int .i64 (x.links : Int)) := lc11
            have e2 : W11.drew.cell? ⟨dg, doff + k, none⟩ = some (.string x.data) := dc11
            have e3 : W11.drew.cell? ⟨q, 1, none⟩ = some (.int .i64 (x.links : Int)) := hq11.cell rfl
            have e4 : W11.drew.cell? ⟨q, 3, none⟩ = some (.slice sa x.bl.length scap) := hq11.cell rfl
            have HQ12 : Hid (Blk W11.drew q [.int .i64 (x.data.size : Int), .int .i64 (x.links : Int), .bool x.exec, .slice sa x.bl.length scap, .int .u32 (crc x.data.data.toList : Nat)] 43) := hidd hq11.drew
            have HO12 := hidd ho11.drew.sl
            have HBK12 : Hid (Blk W11.drew Z (seenB n (flT T k)) 4) := hidd hbk11.drew
            have HBW12 := hidd hbw11.drew
            have HZO := hidd hzo
            clear hq11 ho11 hbk11 hbw11 lc11 dc11 hzo
            generalize hbl : x.bl = bl at *
            generalize hlks : x.links = lks at *
            generalize hdat : x.data = dat at *
            clear hbl hlks hdat
            go_region_held3 (fun W => W.cell? ⟨lg, loff + k, none⟩ = some (.int .i64 (lks : Int)) ∧ W.cell? ⟨dg, doff + k, none⟩ = some (.string dat) ∧ W.cell? ⟨q, 1, none⟩ = some (.int .i64 (lks : Int)) ∧ W.cell? ⟨q, 3, none⟩ = some (.slice sa bl.length scap) ∧ W = W11.drew)
              (first | exact ⟨e1, e2, e3, e4, rfl⟩)
              (first | (go_at_call 12; refine (HND.out _).mono ?_; rintro e w8 ⟨rfl, rfl⟩))
            clear e1 e2 e3 e4
            generalize W11.drew = W12 at *
            go_wp2_with fail
            go_loopw [18, 24] (fun bv iv wr => ∃ i : Nat, i ≤ bl.length ∧ iv = .int .i64 (i : Int) ∧ bv = .int .i64 (((flT T k).length + i : Nat) : Int) ∧ Blk wr Z (seenB n (flT T k ++ bl.take i)) 4 ∧ Fr (fun b => b = Z) W12 wr) (fun _ iv _ => bl.length - (intOf iv).toNat)
            case atStart => exact ⟨0, Nat.zero_le _, rfl, by simp, by simpa using HBK12.out, Fr.refl _ _⟩
            case round =>
              obtain ⟨i, hi, rfl, rfl, hbi, hfi⟩ := hrel
              have hq3 := (HQ12.out.fr hfi (fun e => hzq e.symm)).cell (i := 3) (v := .slice sa bl.length scap) rfl
              have hsl := HO12.out.fr hfi (fun g hg => HZO.out g hg)
              by_cases hib : i < bl.length
              · obtain ⟨sb, so, rfl, -, hsx, hcell⟩ := hsl.at1 hib
                rw [show (ints bl)[i] = .int .i64 ((bl[i] : Nat) : Int) by simp [ints]] at hcell
                have hbn := HINR.out _ (List.getElem_mem hib)
                have hnin : bl[i] ∉ flT T k ++ bl.take i := fun hm => by
                  rcases List.mem_append.1 hm with h | h
                  · exact (List.nodup_append.1 HNOD.out).2.2 _ h _ (List.getElem_mem hib) rfl
                  · obtain ⟨i', hi', e⟩ := List.getElem_of_mem h
                    rw [List.length_take] at hi'
                    rw [List.getElem_take] at e
                    exact (List.pairwise_iff_getElem.1 (List.nodup_append.1 HNOD.out).2.1) i' i (by omega) hib (by omega) e
                have hset := hbi.set bl[i] (.bool true)
                rw [seenB_set, List.append_assoc, ← List.take_succ_eq_append_getElem hib] at hset
                have hcu := hbi.cell (i := bl[i]) (seenB_at n _ hbn)
                rw [decide_eq_false hnin] at hcu
                have hfz := hbi.frozen bl[i]
                have HFR2 : Hid (Fr (fun b => b = Z) W12 (wr.setCell ⟨Z, bl[i], none⟩ (.bool true))) := hidd (hfi.setCell (p := ⟨Z, bl[i], none⟩) (.inl rfl) (.bool true))
                have HSET := hidd hset
                have p1 : (0 : Int) ≤ (i : Int) := by omega
                have p2 : (i : Int) < (bl.length : Int) := by omega
                clear hsx hnin hset hbi hfi hsl
                generalize bl[i] = b at *
                have p3 : (0 : Int) ≤ (b : Int) := by omega
                have p4 : (b : Int) < (n : Int) := by omega
                have p5 : ¬ (n : Int) ≤ (b : Int) := by omega
                have p6 : ¬ (b : Int) < 0 := by omega
                go_wp2_with fail
                go_roundw
                case rel => exact ⟨i + 1, hib, by go_num, by go_num, HSET.out, HFR2.out⟩
                case measure => simp [intOf]; omega
              · obtain rfl : i = bl.length := by omega
                have hii : ¬ ((bl.length : Int) < (bl.length : Int)) := by omega
                have HB2 : Hid (Blk wr Z (seenB n (flT T (k + 1))) 4) := hidd (by
                  rw [List.take_length] at hbi
                  rw [show flT T (k + 1) = flT T k ++ bl from HFN.out]; exact hbi)
                have HBW2 : Hid (Below Z wU wr) := hidd (HBW12.out.trans (hfi.below (Nat.le_of_lt HBK12.out.lt) (fun i e => Nat.le_of_eq e.symm)))
                have HLN : Hid ((flT T (k + 1)).length = (flT T k).length + bl.length) := hidd (by
                  rw [show flT T (k + 1) = flT T k ++ bl from HFN.out, List.length_append])
                clear hbi hfi hsl hib
                go_wp2_with fail
                go_roundw
                case rel => exact ⟨k + 1, hlt, by go_num, by rw [show (flT T (k + 1)).length = (flT T k).length + bl.length from HLN.out], HB2.out, HBW2.out⟩
                case measure => simp [intOf]; omega
        · obtain rfl : k = Ds.length := by omega
          have hkl : ¬ ((Ds.length : Int) < (Ds.length : Int)) := by omega
          have hfr := ifree_any t p ps rs m us wr hrk.tb.tab hrk.tb.sp
          have hfl := hrk.tb.flFree (K := Ds.length) (fun k hk => by
            cases hT : T k with
            | none => rfl
            | some x => have := (HVAL.out.has k x hT).1; have := HEQ.out; omega)
          rw [HUS.out] at hfl
          have hB := hrk.below
          have hwr : IntKind.i64.wrap ((n : Int) - (((flT T Ds.length).length : Nat) : Int)) = ((nfree us : Nat) : Int) := by rw [i64_in _ (by omega)]; omega
          clear hfl hrk hbk hbw
          go_wp2_with fail
          refine hfr.mono ?_
          rintro e w9 ⟨rfl, hb9⟩
          go_wp2_with fail
          go_ret
          exact ⟨by simp, hB.trans (hb9.mono hB.size)⟩
end Go.Proofs.YtmcmkocnacdniaaDoor
