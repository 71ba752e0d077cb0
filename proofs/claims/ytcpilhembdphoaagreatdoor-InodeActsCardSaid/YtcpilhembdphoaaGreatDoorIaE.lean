/- A table of inodes and the document's beside it; tableOf, AsTable. Condition: the tables are there, the variables read as listed. · stillroomlaw2.AsTable answers 1 of a table and its model. Condition: they are side by side, the variables read as listed. -/
import Derived.Test.YtcpilhembdphoaaGreatDoorIaD
import Derived.Test.YtcpilhembdphoaaGreatDoorScA
import Derived.Test.YtcpilhembdphoaaGreatDoorSkP
import Derived.Test.YtcpilhembdphoaaGreatDoorCoded
namespace Go.Proofs.YtcpilhembdphoaaGreatDoor
open Go.RowKit

theorem TbAt.frS {pc : Prop} {w w' : World} {B t p r ps rs m N : Nat} {T : Nat → Option Ino} {us : List Bool} {ls : List ByteArray} {S : Nat → Prop} (h : TbAt pc w B t p r ps rs m N T us ls) (hf : Fr S w w') (ht : ¬ S t) (hp : ¬ S p) (hr : ¬ S r) (hps : ¬ S ps) (hrs : ¬ S rs) (hm : ¬ S m) (hx : ∀ k x, T k = some x → ¬ S x.blk)
    (hv : ∀ v n xs, Ow (fun _ => True) w 3 1 v n xs → ∀ g, v.ownBlock = some g → ¬ S g) : TbAt pc w' B t p r ps rs m N T us ls :=
  { h with
    tab := h.tab.fr hf ht
    dk := h.dk.fr hf (by rintro b (rfl | rfl | e); exact hp; exact hr; simp [Value.ownBlock] at e)
    sp := h.sp.fr hf hps hrs
    mp := by obtain ⟨n, hn, hq⟩ := h.mp; exact ⟨n, hn, hq.fr hf hm⟩
    ino := fun k x hk => (h.ino k x hk).fr hf (hx k x hk) (fun g hg => hv _ _ _ (h.ino k x hk).row g hg) }

section
variable {w w' : World} {B t p r ps rs m N tm q K : Nat} {lv rv : Value} {T T2 : Nat → Option Ino} {V : Nat → Value} {us : List Bool} {ls ls2 : List ByteArray}
/-- What an act on the table does not touch of the model. -/
theorem md_real {pc : Prop} (h : TbAt pc w B t p r ps rs m N T us ls) (md : MdAt w tm q lv rv K T2 V ls2) (hne : lv.ownBlock ≠ some r) (hf : Fr (tbS p r rs m T) w w') : MdAt w' tm q lv rv K T2 V ls2 := by
  obtain ⟨n, hn, hm⟩ := h.mp
  refine md.fr hf ?_ (fun v n xs hv g hg => h.apart (F := fun _ => True) hv g hg)
  rintro b (rfl | rfl | e | e) (e2 | e2 | e2 | e2 | ⟨k, x, hx, e2⟩)
  · exact blk_ne md.tab h.dk.head (by decide) e2
  · exact blk_ne md.tab h.dk.row (by decide) e2
  · exact blk_ne md.tab h.sp.row (by decide) e2
  · exact hm.ne_blk md.tab e2.symm
  · exact blk_ne md.tab (h.ino k x hx).blk (by decide) e2
  · exact blk_ne md.dk.head h.dk.head (by decide) e2
  · exact blk_ne md.dk.head h.dk.row (by decide) e2
  · exact blk_ne md.dk.head h.sp.row (by decide) e2
  · exact hm.ne_blk md.dk.head e2.symm
  · exact blk_ne md.dk.head (h.ino k x hx).blk (by decide) e2
  · exact own_ne md.dk.l h.dk.head (by decide) (e2 ▸ e)
  · exact hne (e2 ▸ e)
  · exact own_ne md.dk.l h.sp.row (by decide) (e2 ▸ e)
  · exact own_ne_map md.dk.l hm (e2 ▸ e)
  · exact own_ne md.dk.l (h.ino k x hx).blk (by decide) (e2 ▸ e)
  · exact own_ne md.row h.dk.head (by decide) (e2 ▸ e)
  · exact own_ne md.row h.dk.row (by decide) (e2 ▸ e)
  · exact own_ne md.row h.sp.row (by decide) (e2 ▸ e)
  · exact own_ne_map md.row hm (e2 ▸ e)
  · exact own_ne md.row (h.ino k x hx).blk (by decide) (e2 ▸ e)
/-- What an act on the model does not touch of the table. -/
theorem tb_model {pc : Prop} (h : TbAt pc w B t p r ps rs m N T us ls) (md : MdAt w tm q lv rv K T2 V ls2) (hne : lv.ownBlock ≠ some r) (hf : Fr (mdS tm q lv rv) w w') : TbAt pc w' B t p r ps rs m N T us ls := by
  obtain ⟨n, hn, hm⟩ := h.mp
  have hb : ∀ {b : Nat} {cs : List Value} {Ty : TypeId}, Blk w b cs Ty → Ty ≠ 61 → Ty ≠ 99 → Ty ≠ 9 → Ty ≠ 104 → ¬ mdS tm q lv rv b := fun hk n1 n2 n3 n4 => by
    rintro (e | e | e | e)
    · exact blk_ne hk md.tab n1 e
    · exact blk_ne hk md.dk.head n2 e
    · exact own_ne md.dk.l hk (fun q => n3 q.symm) e
    · exact own_ne md.row hk (fun q => n4 q.symm) e
  refine h.frS hf (hb h.tab (by decide) (by decide) (by decide) (by decide)) (hb h.dk.head (by decide) (by decide) (by decide) (by decide)) ?_ (hb h.sp.head (by decide) (by decide) (by decide) (by decide)) (hb h.sp.row (by decide) (by decide) (by decide) (by decide)) ?_ (fun k x hx => hb (h.ino k x hx).blk (by decide) (by decide) (by decide) (by decide)) (fun v n xs hv g hg => ?_)
  · rintro (e | e | e | e)
    · exact blk_ne h.dk.row md.tab (by decide) e
    · exact blk_ne h.dk.row md.dk.head (by decide) e
    · exact hne e
    · exact own_ne md.row h.dk.row (by decide) e
  · rintro (e | e | e | e)
    · exact hm.ne_blk md.tab e
    · exact hm.ne_blk md.dk.head e
    · exact own_ne_map md.dk.l hm e
    · exact own_ne_map md.row hm e
  · rintro (e | e | e | e)
    · exact own_ne hv md.tab (by decide) (e ▸ hg)
    · exact own_ne hv md.dk.head (by decide) (e ▸ hg)
    · exact own_ne_own hv md.dk.l (by decide) hg e
    · exact own_ne_own hv md.row (by decide) hg e
end
/-- A table and its model, side by side. -/
structure Bo (w0 w : World) (t p r ps rs m N tm q : Nat) (lv rv : Value) (K : Nat) (T : Nat → Option Ino) (V : Nat → Value) (us : List Bool) (ls : List ByteArray) : Prop where
  tb : TbAt False w w0.heap.size t p r ps rs m N T us ls
  md : MdAt w tm q lv rv K T V ls
  sz : Sz ls []
  ne : lv.ownBlock ≠ some r
  low : ∀ b, mdS tm q lv rv b → w0.heap.size ≤ b
  below : Below w0.heap.size w0 w
  pos : 0 < ls.length
  few : ls.length ≤ 512
theorem Bo.ob {w0 w w' : World} {t p r ps rs m N tm q : Nat} {lv rv : Value} {K : Nat} {T : Nat → Option Ino} {V : Nat → Value} {us : List Bool} {ls : List ByteArray} (h : Bo w0 w t p r ps rs m N tm q lv rv K T V us ls) (hb : Below w.heap.size w w') : Bo w0 w' t p r ps rs m N tm q lv rv K T V us ls :=
  ⟨h.tb.ob hb, h.md.ob hb, h.sz, h.ne, h.low, below_step h.below hb, h.pos, h.few⟩
theorem Bo.step {w0 w w1 w2 : World} {t p r ps rs m N N1 tm q : Nat} {lv rv rv2 : Value} {K K2 : Nat} {T T1 : Nat → Option Ino} {V V2 : Nat → Value} {us us1 : List Bool} {ls ls1 : List ByteArray} (h : Bo w0 w t p r ps rs m N tm q lv rv K T V us ls) (h1 : TbAt False w1 w0.heap.size t p r ps rs m N1 T1 us1 ls1) (hz : Sz ls1 []) (hl : ls1.length = ls.length) (hf1 : Fr (tbS p r rs m T) w w1)
    (h2 : MdAt w2 tm q lv rv2 K2 T1 V2 ls1) (hr : ∀ b, rv2.ownBlock = some b → rv.ownBlock = some b ∨ w1.heap.size ≤ b) (hf2 : Fr (mdS tm q lv rv) w1 w2) : Bo w0 w2 t p r ps rs m N1 tm q lv rv2 K2 T1 V2 us1 ls1 := by
  have hb1 : Below w0.heap.size w0 w1 := h.below.trans (hf1.below h.below.size h.tb.baseS)
  refine ⟨tb_model h1 (md_real h.tb h.md h.ne hf1) h.ne hf2, h2, hz, h.ne, ?_, hb1.trans (hf2.below hb1.size h.low), by rw [hl]; exact h.pos, by rw [hl]; exact h.few⟩
  rintro b (e | e | e | e)
  · exact h.low b (.inl e)
  · exact h.low b (.inr (.inl e))
  · exact h.low b (.inr (.inr (.inl e)))
  · rcases hr b e with e2 | e2
    · exact h.low b (.inr (.inr (.inr e2)))
    · exact Nat.le_trans hb1.size e2

/-- A new table, and its model. -/
def Tn2Post (n : Nat) (w : World) (e : Ending) (w' : World) : Prop := ∃ t p r ps rs m tm q lv, e = .returned (.tuple #[.pointer (some ⟨t, 0, none⟩), .pointer (some ⟨tm, 0, none⟩), .bool true]) ∧
  Bo w w' t p r ps rs m 0 tm q lv (.slice none 0 0) 0 (fun _ => none) (fun _ => .slice none 0 0) (List.replicate n false) (List.replicate n (zb 16))
set_option maxRecDepth 100000 in
set_option maxHeartbeats 1000000 in
theorem tableOf2_ok (n : Nat) (w : World) (h1 : 1 ≤ n) (h2 : n ≤ 512) : Calls Tryz.prog 6 #[.int .i64 (n : Int)] w (Tn2Post n w) := by
  go_enter Tryz.func6, Tryz.ntmps6
  go_wp2_with fail
  refine (rnewd_any n _ h2).mono ?_
  rintro e w1 ⟨q, lv, rfl, hdr, hq1, hlv1, hb1⟩
  go_wp2_with fail
  have hA := (Below.refl w1.heap.size w1).alloc (Nat.le_refl _) (.cells #[.pointer (some ⟨q, 0, none⟩), .slice none 0 0] 61)
  have htm := Blk.new w1 [.pointer (some ⟨q, 0, none⟩), .slice none 0 0] 61
  refine (dnew_ok n _ h1 h2).mono ?_
  rintro e w2 ⟨p, r, rfl, hdk, g1, g2, hb2⟩
  have hb12 := below_step hA hb2
  have hB2 : Below w.heap.size w w2 := below_step hb1 hb12
  have hlen : (List.replicate n (zb 16)).length = n := by simp
  have hin := inew_ok p r _ (List.replicate n (zb 16)) [] w2 hdk (by rw [hlen]; exact h1) (by rw [hlen]; exact h2)
  rw [hlen] at hin
  have hmd2 : MdAt w2 w1.heap.size q lv (.slice none 0 0) 0 (fun _ => none) (fun _ => .slice none 0 0) (List.replicate n (zb 16)) :=
    ⟨htm.below hb2 htm.lt, hdr.ob hb12 (Nat.le_refl _), Ow.nil _ _ _ _, fun _ _ h => (by cases h), fun _ _ => rfl, by omega⟩
  have hg : w.heap.size ≤ p ∧ w.heap.size ≤ r := by have := hb1.size; simp at g1 g2; omega
  have hlr : lv.ownBlock ≠ some r := fun e => by have := (hdr.l.blk r e).2; simp at g2; omega
  have hlow : ∀ b, mdS w1.heap.size q lv (.slice none 0 0) b → w.heap.size ≤ b := by
    rintro b (e | e | e | e)
    · have := hb1.size; omega
    · omega
    · exact hlv1 b e
    · simp [Value.ownBlock] at e
  have HB2 := hidd hB2
  have HMD := hidd hmd2
  have HG := hidd hg
  have HLR := hidd hlr
  have HLOW := hidd hlow
  clear hb1 hb2 hB2 g1 g2 hdr hA htm hb12 hmd2 hg hlr hlow hq1 hlv1
  go_wp2_with fail
  refine hin.mono ?_
  rintro e w3 ⟨t, ps, rs, m, rfl, hb, hs, hm, e1, e2, e3, e4, -, -, -, -, -, hb3⟩
  have hsz := HB2.out.size
  have htb : TbAt False w3 w.heap.size t p r ps rs m 0 (fun _ => none) (List.replicate n false) (List.replicate n (zb 16)) := tb_start (hdk.ob hb3 (Nat.le_refl _)) hb hs hm (by have := HG.out; omega)
  have HP : Hid (Tn2Post n w (.returned (.tuple #[.pointer (some ⟨t, 0, none⟩), .pointer (some ⟨w1.heap.size, 0, none⟩), .bool true])) w3) := hidd
    ⟨t, p, r, ps, rs, m, _, q, lv, rfl, ⟨htb, HMD.out.ob hb3, a16_start n, HLR.out, HLOW.out, HB2.out.trans (hb3.mono hsz), by rw [hlen]; omega, by rw [hlen]; exact h2⟩⟩
  clear hin hdk hb hs hm hb3 htb
  go_wp2_with fail
  refine bodyPost_ret (results_tmp3 rfl _ _ _) rfl ?_
  exact HP.out
end Go.Proofs.YtcpilhembdphoaaGreatDoor

namespace Go.Proofs.YtcpilhembdphoaaGreatDoor
open Go.RowKit

theorem crc_lt (l : List UInt8) : crc l < 4294967296 := Nat.xor_lt_two_pow (n := 32) (crcTo_lt l) (by decide)
theorem same_ints {W : World} {v1 v2 : Value} {l : List Nat} (h1 : Sl W v1 (ints l) l.length 1) (h2 : Sl W v2 (ints l) l.length 1) : Calls Tryz.prog 11 #[v1, v2] W fun e w' => e = .returned (.bool true) ∧ Below W.heap.size W w' := by
  rw [ints_icells] at h1 h2
  have h := sameInts_any v1 v2 (l.map fun (j : Nat) => (j : Int)) (l.map fun (j : Nat) => (j : Int)) W (by simpa using h1) (by simpa using h2)
  rw [decide_eq_true rfl] at h
  exact h
set_option maxRecDepth 100000 in
set_option maxHeartbeats 40000000 in
theorem asTable_true (E : Nat → Addr) (B0 : Nat) (w0 w : World) (t p r ps rs m N tm q : Nat) (lv rv : Value) (K : Nat) (T : Nat → Option Ino) (V : Nat → Value) (us : List Bool) (ls : List ByteArray) (h : Bo w0 w t p r ps rs m N tm q lv rv K T V us ls) (hN : N ≤ 1000000) (hE : ∀ W, Below w0.heap.size w0 W → Env codeGs B0 W E) (hH : ∀ W, Below w0.heap.size w0 W → Hnd W) :
    Calls Tryz.prog 21 #[.pointer (some ⟨t, 0, none⟩), .pointer (some ⟨tm, 0, none⟩)] w fun e w' => e = .returned (.int .i64 1) ∧ Below w.heap.size w w' := by
  have HAL := hidd (all_any w0.heap.size t p r ps rs m N T us ls w h.tb hN)
  have HH := hidd (fun W (hW : Below w.heap.size w W) => h.ob hW)
  have HE := hidd hE
  have HHn := hidd hH
  have hKf := h.md.few
  have HKY := hidd (keyK_keys h.md.fin)
  have HFR := hidd (show (frK T K ls.length).length = nfree us by
    rw [← h.tb.len, frK_us (usedT_us h.md.fin h.tb.usd), freeL_len, nfree_eq])
  clear h hE hH
  go_enter Tryz.func21, Tryz.ntmps21
  go_wp2_with fail
  refine HAL.out.mono ?_
  rintro e w1 ⟨kl, ka, kc, hko, hkl, rfl, hsl, hb1⟩
  have HFE := hidd (rfree_any w1 tm q lv rv K T V ls (HH.out w1 hb1).md (HH.out w1 hb1).few)
  have HSL := hidd (fun W (hW : Below w1.heap.size w1 W) => hsl.ob hW (Nat.le_refl _))
  have HKO := hidd hko
  have HB1 := hidd hb1
  clear HAL hsl hko hb1
  go_wp2_with fail
  refine HFE.out.mono ?_
  rintro e w2 ⟨fa, fc, rfl, -, hb2⟩
  have HRA := hidd (rall_any w2 tm q lv rv K T V ls (HH.out w2 (below_step HB1.out hb2)).md)
  have HB2 := hidd hb2
  clear HFE hb2
  go_wp2_with fail
  refine HRA.out.mono ?_
  rintro e w3 ⟨ya, yc, rfl, how, hb3⟩
  have hb13 := below_step HB2.out hb3
  have hke : keyK T K = kl := HKY.out.one HKO.out
  rw [hke] at how ⊢
  have HSA := hidd (same_ints (HSL.out w3 hb13) how.sl)
  have HB3 := hidd hb13
  clear HRA how hb3 HB2 hke hb13
  go_wp2_with fail
  refine HSA.out.mono ?_
  rintro e w4 ⟨rfl, hb4⟩
  have hb14 := below_step HB3.out hb4
  have h4 := HH.out w4 (below_step HB1.out hb14)
  have HIF := hidd (ifree_any t p ps rs m us w4 h4.tb.tab h4.tb.sp)
  have HB4 := hidd hb14
  clear HSA hb4 HB3 h4 hb14
  go_wp2_with fail
  refine HIF.out.mono ?_
  rintro e w5 ⟨rfl, hb5⟩
  rw [show (frK T K ls.length).length = nfree us from HFR.out]
  have HB5 := hidd (below_step HB4.out hb5)
  clear HIF hb5 HB4 HFR
  generalize nfree us = nf at *
  go_wp2_with fail
  go_loopw [7] (fun i wr => ∃ j : Nat, j ≤ kl.length ∧ i = .int .i64 (j : Int) ∧ Below w5.heap.size w5 wr) (fun i _ => kl.length - (intOf i).toNat)
  case atStart => exact ⟨0, Nat.zero_le _, rfl, Below.refl _ _⟩
  case round =>
    obtain ⟨j, hj, rfl, hbe⟩ := hrel
    have hb1r := below_step HB5.out hbe
    have hbwr := below_step HB1.out hb1r
    by_cases hlt : j < kl.length
    · obtain ⟨sb, so, rfl, -, hcb, hcell⟩ := (HSL.out wr hb1r).at1 hlt
      rw [show (ints kl)[j] = .int .i64 ((kl[j] : Nat) : Int) by simp [ints]] at hcell
      have hkm : kl[j] ∈ kl := List.getElem_mem hlt
      have p1 : (0 : Int) ≤ (j : Int) := by omega
      have p2 : (j : Int) < (kl.length : Int) := by omega
      have HLT := hidd hlt
      generalize kl[j] = k at *
      obtain ⟨x, hx⟩ := Option.isSome_iff_exists.1 ((HKO.out.2 k).1 hkm)
      have hr := HH.out wr hbwr
      have hkK : k < K := by
        by_cases hl : k < K
        · exact hl
        · rw [hr.md.fin k (by omega)] at hx; cases hx
      have HST := hidd (stat_ok w0.heap.size t p r ps rs m N T us ls k x wr hr.tb (by omega) hx)
      have HBE := hidd hbe
      have HX := hidd hx
      have HKK := hidd hkK
      clear hr hkm hcb hlt hx hbe hb1r hbwr hkK
      go_wp2_with fail
      refine HST.out.mono ?_
      rintro e w6 ⟨ga, gc, rfl, hog, hb6⟩
      have hb56 := below_step HBE.out hb6
      have hA6 := (Below.refl w6.heap.size w6).alloc (Nat.le_refl _) (.cells #[.int .i64 (x.data.size : Int), .int .i64 (x.links : Int), .bool x.exec, .slice ga x.bl.length gc, .int .u32 (crc x.data.data.toList : Nat)] 34)
      have hsb := Blk.new w6 [.int .i64 (x.data.size : Int), .int .i64 (x.links : Int), .bool x.exec, .slice ga x.bl.length gc, .int .u32 (crc x.data.data.toList : Nat)] 34
      have hog7 := hog.ob hA6
      go_upto_region 12 with fail
      obtain ⟨xs, hxs⟩ : ∃ xs, w6.heap.size = xs := ⟨_, rfl⟩
      rw [hxs] at hsb ⊢
      generalize w6.alloc (.cells #[.int .i64 (x.data.size : Int), .int .i64 (x.links : Int), .bool x.exec, .slice ga x.bl.length gc, .int .u32 (crc x.data.data.toList : Nat)] 34) = w7 at *
      have hb57 := below_step hb56 hA6
      have h7 := HH.out w7 (below_step HB1.out (below_step HB5.out hb57))
      obtain ⟨rra, rrc, hrv⟩ := h7.md.shape
      have hmd7 := h7.md
      rw [hrv] at hmd7
      obtain ⟨gg, og, hga, hc⟩ := hmd7.at HKK.out
      subst hga
      have hcs := mcell_some HX.out V
      have d0 := hc 0 (by omega) (.bool true) (by rw [hcs]; rfl)
      rw [Nat.add_zero] at d0
      have d1 := hc 1 (by omega) (.int .i64 (x.data.size : Int)) (by rw [hcs]; rfl)
      have d2 := hc 2 (by omega) (.int .i64 (x.links : Int)) (by rw [hcs]; rfl)
      have d3 := hc 3 (by omega) (.bool x.exec) (by rw [hcs]; rfl)
      have d5 := hc 5 (by omega) (.int .i64 ((crc x.data.data.toList : Nat) : Int)) (by rw [hcs]; rfl)
      have d4 := hc 4 (by omega) (V k) (by rw [hcs]; rfl)
      obtain ⟨va, vc, hv⟩ := (hmd7.bl k x HX.out).shape
      have hbl := hmd7.bl k x HX.out
      rw [hv] at d4 hbl
      have e1 := hmd7.c1
      have k1 : (0 : Int) ≤ (k : Int) := by omega
      have k2 : (k : Int) < (K : Int) := by have := HKK.out; omega
      have hA7 := (Below.refl w7.heap.size w7).alloc (Nat.le_refl _) (.cells #[.bool true, .int .i64 (x.data.size : Int), .int .i64 (x.links : Int), .bool x.exec, .slice va x.bl.length vc, .int .i64 ((crc x.data.data.toList : Nat) : Int)] 104)
      have hyb := Blk.new w7 [.bool true, .int .i64 (x.data.size : Int), .int .i64 (x.links : Int), .bool x.exec, .slice va x.bl.length vc, .int .i64 ((crc x.data.data.toList : Nat) : Int)] 104
      have hsb8 := hsb.below hA7 hsb.lt
      have hog8 := hog7.ob hA7
      have hbl8 := hbl.ob hA7
      have hb58 := below_step hb57 hA7
      clear hc hcs hmd7 h7 hog hog7 hbl hA6 hsb hb6 hb57
      go_upto_region 13 with fail
      obtain ⟨yb, hye⟩ : ∃ yb, w7.heap.size = yb := ⟨_, rfl⟩
      rw [hye] at hyb ⊢
      generalize w7.alloc (.cells #[.bool true, .int .i64 (x.data.size : Int), .int .i64 (x.links : Int), .bool x.exec, .slice va x.bl.length vc, .int .i64 ((crc x.data.data.toList : Nat) : Int)] 104) = w8 at *
      have s0 := hsb8.cell (i := 0) rfl
      have s1 := hsb8.cell (i := 1) rfl
      have s2 := hsb8.cell (i := 2) rfl
      have s3 := hsb8.cell (i := 3) rfl
      have s4 := hsb8.cell (i := 4) rfl
      have y1 := hyb.cell (i := 1) rfl
      have y2 := hyb.cell (i := 2) rfl
      have y3 := hyb.cell (i := 3) rfl
      have y4 := hyb.cell (i := 4) rfl
      have y5 := hyb.cell (i := 5) rfl
      have hcr := crc_lt x.data.data.toList
      have ewr : IntKind.i64.wrap ((crc x.data.data.toList : Nat) : Int) = ((crc x.data.data.toList : Nat) : Int) := i64_in _ (by omega)
      have HSI := hidd (same_ints hog8.sl hbl8.sl)
      have HB8 := hidd hb58
      clear hsb8 hyb hog8 hbl8 hb58 d0 d1 d2 d3 d4 d5 e1 hcell hA7 hcr
      generalize hcv : crc x.data.data.toList = cv at *
      go_wp2_with fail
      refine HSI.out.mono ?_
      rintro e w9 ⟨rfl, hb9⟩
      have hb59 := below_step HB8.out hb9
      have h9 := HH.out w9 (below_step HB1.out (below_step HB5.out hb59))
      have hrd := iread_any w0.heap.size t p r ps rs m N T us ls k x w9 h9.tb (by have := HKK.out; omega) HX.out (h9.tb.s16 h9.sz HX.out) E codeGs B0 (HE.out w9 h9.below) (by decide)
      have hrt := fun W (hW : Below w9.heap.size w9 W) => rtread_ok W tm q lv _ K T V ls (h9.ob hW).md k x HX.out (h9.tb.s16 h9.sz HX.out) (h9.tb.ok k x HX.out).inr (h9.tb.ok k x HX.out).len (h9.tb.ok k x HX.out).size
      have HB9 := hidd hb59
      have HBW := hidd (fun W (hW : Below w9.heap.size w9 W) => below_step h9.below hW)
      unfold RgPost at hrd
      unfold RtdPost at hrt
      clear HSI hb9 h9 hb59 HB8 s0 s1 s2 s3 s4 y1 y2 y3 y4 y5 ewr HST
      rw [hcv] at hrd hrt
      by_cases hq : crc (readB ls x).data.toList = cv
      · rw [if_pos hq] at hrd
        simp only [if_pos hq] at hrt
        have HRD := hidd hrd
        have HRT := hidd hrt
        clear hrd hrt hq
        generalize readB ls x = R at *
        go_wp2_with fail
        refine HRD.out.mono ?_
        rintro e w10 ⟨rfl, hb10⟩
        have HR2 := hidd (HRT.out w10 hb10)
        have HB10 := hidd hb10
        clear HRD HRT hb10
        go_wp2_with fail
        refine HR2.out.mono ?_
        rintro e w11 ⟨rfl, hb11⟩
        have hb911 := below_step HB10.out hb11
        have hcd := coded2 E B0 w11 (HE.out _ (HBW.out _ hb911)) (HHn.out _ (HBW.out _ hb911)) .nilIface 0 (.inl ⟨rfl, rfl⟩) 0
        rw [show decide (((0 : Nat) : Int) = 0) = true by decide] at hcd
        have HCD := hidd hcd
        have HB11 := hidd hb911
        clear hcd hb11 HR2 HB10 hb911
        go_wp2_with fail
        refine HCD.out.mono ?_
        rintro e w12 ⟨rfl, hb12⟩
        have HB12 := hidd (below_step HB9.out (below_step HB11.out hb12))
        clear HCD hb12 HB11
        have ts : (R.toList != R.toList) = false := by simp
        go_wp2_with fail
        go_roundw
        case rel => exact ⟨j + 1, HLT.out, by go_num, HB12.out⟩
        case measure => simp [intOf]; have := HLT.out; omega
      · rw [if_neg hq] at hrd
        simp only [if_neg hq] at hrt
        unfold erv at hrd
        have HRD := hidd hrd
        have HRT := hidd hrt
        clear hrd hrt hq
        go_wp2_with fail
        refine HRD.out.mono ?_
        rintro e w10 ⟨rfl, hb10⟩
        have HR2 := hidd (HRT.out w10 hb10)
        have HB10 := hidd hb10
        clear HRD HRT hb10
        go_wp2_with fail
        refine HR2.out.mono ?_
        rintro e w11 ⟨rfl, hb11⟩
        have hb911 := below_step HB10.out hb11
        have hcd := coded2 E B0 w11 (HE.out _ (HBW.out _ hb911)) (HHn.out _ (HBW.out _ hb911)) (erv E 2) 11 (.inr ⟨10, by decide, rfl, rfl⟩) 11
        rw [show decide (((11 : Nat) : Int) = 11) = true by decide] at hcd
        unfold erv at hcd
        have HCD := hidd hcd
        have HB11 := hidd hb911
        clear hcd hb11 HR2 HB10 hb911
        go_wp2_with fail
        refine HCD.out.mono ?_
        rintro e w12 ⟨rfl, hb12⟩
        have HB12 := hidd (below_step HB9.out (below_step HB11.out hb12))
        clear HCD hb12 HB11
        go_wp2_with fail
        go_roundw
        case rel => exact ⟨j + 1, HLT.out, by go_num, HB12.out⟩
        case measure => simp [intOf]; have := HLT.out; omega
    · have hjl : j = kl.length := by omega
      subst hjl
      have HBW := hidd hbwr
      clear hbe hb1r hbwr hlt
      go_wp2_with fail
      go_ret
      exact ⟨rfl, HBW.out⟩
end Go.Proofs.YtcpilhembdphoaaGreatDoor
