/- stillroomlaw2.scrubbed and stillroomlaw2.ScrubMends, walked. Condition: the variables read as listed. -/
import Derived.Test.YtcpilhembdphoaaGreatDoorSc2
import Derived.Test.YtcpilhembdphoaaGreatDoorSkP
import Derived.Test.YtcpilhembdphoaaGreatDoorCoded
namespace Go.Proofs.YtcpilhembdphoaaGreatDoor
open Go.RowKit

theorem readB_mine {pc : Prop} {w : World} {B t p r ps rs m N : Nat} {T : Nat → Option Ino} {us : List Bool} {ls : List ByteArray} (h : TbAt pc w B t p r ps rs m N T us ls) {k : Nat} {x : Ino} (hx : T k = some x) : readB (lsN ls x.bl x.data x.bl.length) x = x.data :=
  readB_pcs (h.ok k x hx).len (fun i hi => lsN_at ls x.bl x.data _ (h.ok k x hx).inr (h.ok k x hx).nod _ (Nat.le_refl _) i hi)
theorem readB_other {pc : Prop} {w : World} {B t p r ps rs m N : Nat} {T : Nat → Option Ino} {us : List Bool} {ls : List ByteArray} (h : TbAt pc w B t p r ps rs m N T us ls) {k l : Nat} {x y : Ino} (hx : T k = some x) (hy : T l = some y) (hkl : k ≠ l) (d : ByteArray) : readB (lsN ls y.bl d y.bl.length) x = readB ls x :=
  readB_congr (fun b hb => lsN_other ls y.bl d b _ _ (fun _ hi e => h.dis k l x y hx hy hkl b hb (e ▸ getD_mem hi)))
theorem readB_set {pc : Prop} {w : World} {B t p r ps rs m N : Nat} {T : Nat → Option Ino} {us : List Bool} {ls : List ByteArray} (h : TbAt pc w B t p r ps rs m N T us ls) {k l : Nat} {x y : Ino} (hx : T k = some x) (hy : T l = some y) (hkl : k ≠ l) {g : Nat} (hg : g ∈ y.bl) (s : ByteArray) : readB (ls.set g s) x = readB ls x :=
  readB_congr (fun b hb => by
    have hne : g ≠ b := fun e => h.dis k l x y hx hy hkl b hb (e ▸ hg)
    rw [List.getD_eq_getElem?_getD, List.getElem?_set_ne hne, ← List.getD_eq_getElem?_getD])
theorem need13 {n : Nat} (h : n ≤ 200) : needN n ≤ 13 := by unfold needN; split <;> omega
theorem dkS_none {p r b : Nat} (h : dkS p r (.slice none 0 0) b) : b = p ∨ b = r := by
  rcases h with h | h | h
  · exact .inl h
  · exact .inr h
  · simp [Value.ownBlock] at h
theorem TbAt.low {pc : Prop} {w w' : World} {B t p r ps rs m N : Nat} {T : Nat → Option Ino} {us : List Bool} {ls : List ByteArray} (h : TbAt pc w B t p r ps rs m N T us ls) (hB : B ≤ w.heap.size) (hf : Fr (fun b => b = p ∨ b = r) w w') : Below B w w' :=
  hf.below hB (by have := h.base; rintro i (e | e) <;> omega)
/-- A bit of a table's disk turns. -/
def RtPost (B t p r ps rs m N : Nat) (T : Nat → Option Ino) (us : List Bool) (ls : List ByteArray) (k bit : Nat) (w : World) (e : Ending) (w' : World) : Prop :=
  e = .returned .nilIface ∧ TbAt False w' B t p r ps rs m N T us (ls.set k (turn (ls.getD k ByteArray.empty) bit)) ∧ Sz (ls.set k (turn (ls.getD k ByteArray.empty) bit)) [] ∧ Fr (fun b => b = p ∨ b = r) w w'
theorem rot_tb {pc : Prop} (B t p r ps rs m N : Nat) (T : Nat → Option Ino) (us : List Bool) (ls : List ByteArray) (k bit : Nat) (w : World) (h : TbAt pc w B t p r ps rs m N T us ls) (hz : Sz ls []) (hk : k < ls.length) (hb : bit < 128) :
    Calls Tryz.prog 10 #[.pointer (some ⟨p, 0, none⟩), .int .i64 (k : Int), .int .i64 (bit : Int)] w (RtPost B t p r ps rs m N T us ls k bit w) := by
  refine (rot_ok p r _ ls [] k bit w h.dk hz hk hb).mono ?_
  rintro e w' ⟨rfl, hd, hf⟩
  have hf' := hf.mono (T := fun b => b = p ∨ b = r) (fun i _ hi => dkS_none hi)
  exact ⟨rfl, h.disk hf' hd (by simp), hz.put k (by rw [turn_size]; exact hz.at hk), hf'⟩
/-- What Scan gives where it is known. -/
def ScO (out : List Nat) (n : Nat) (w : World) (e : Ending) (w' : World) : Prop := ∃ (a : Option Addr) (cap : Nat), e = .returned (.slice a n cap) ∧ Sl w' (.slice a n cap) (ints out) out.length 1 ∧ Below w.heap.size w w'
/-- A table, and the world that the statement began in. -/
def TbQ (w0 : World) (t p r ps rs m N : Nat) (T : Nat → Option Ino) (us : List Bool) (ls : List ByteArray) (W : World) : Prop := TbAt False W w0.heap.size t p r ps rs m N T us ls ∧ Below w0.heap.size w0 W
theorem TbQ.later {w0 W W' : World} {t p r ps rs m N : Nat} {T : Nat → Option Ino} {us : List Bool} {ls : List ByteArray} (h : TbQ w0 t p r ps rs m N T us ls W) (hb : Below W.heap.size W W') : TbQ w0 t p r ps rs m N T us ls W' := ⟨h.1.ob hb, below_step h.2 hb⟩
theorem scan_to {w0 : World} {t p r ps rs m N : Nat} {T : Nat → Option Ino} {us : List Bool} {ls : List ByteArray} {W : World} (h : TbQ w0 t p r ps rs m N T us ls W) (hN : N ≤ 1000000) (hz : Sz ls []) {E : Nat → Addr} {B0 : Nat} (hE : ∀ W, Below w0.heap.size w0 W → Env codeGs B0 W E) {kl : List Nat} (out : List Nat) (n : Nat) (hk : KeysOf T kl) (ho : kl.filter (badI ls T) = out) (hn : out.length = n) :
    Calls Tryz.prog 12 #[.pointer (some ⟨t, 0, none⟩)] W (ScO out n W) := by
  refine (scan_any w0.heap.size t p r ps rs m N T us ls W h.1 hN hz E codeGs B0 (hE W h.2) (by decide)).mono ?_
  rintro e w' ⟨kl', out', a, cap, hko, hout, rfl, hsl, hb⟩
  obtain rfl : out' = out := by rw [hout, hko.one hk, ho]
  exact ⟨a, cap, by rw [hn], hn ▸ hsl, hb⟩
theorem si_one {W : World} {v1 v2 : Value} (h1 : Sl W v1 (ints [1]) 1 1) (h2 : Sl W v2 [.int .i64 1] 1 1) : Calls Tryz.prog 11 #[v1, v2] W fun e w' => e = .returned (.bool true) ∧ Below W.heap.size W w' := by
  have h := sameInts_any v1 v2 [1] [1] W h1 h2
  rw [show decide (([1] : List Int) = [1]) = true by decide] at h
  exact h
theorem sl_one (W : World) : Sl (W.alloc (.cells #[.int .i64 1] 3)) (.slice (some ⟨W.heap.size, 0, none⟩) 1 1) [.int .i64 1] 1 1 := Sl.of_owns ((Blk.new W [.int .i64 1] 3).owns (base := 0) (Nat.zero_le _) (by decide))
theorem keys1 (x : Ino) : KeysOf (upd (fun _ => none) 0 (some x)) [0] := ⟨by simp, fun k => by
  unfold upd
  by_cases h : k = 0 <;> simp [h]⟩
theorem keys2 (x y : Ino) : KeysOf (upd (upd (fun _ => none) 0 (some x)) 1 (some y)) [0, 1] := ⟨by simp, fun k => by
  unfold upd
  by_cases h : k = 1
  · simp [h]
  · by_cases h0 : k = 0 <;> simp [h, h0]⟩

set_option maxRecDepth 100000 in
set_option maxHeartbeats 8000000 in
theorem scrubbed_true (E : Nat → Addr) (B0 : Nat) (w : World) (hE : Env codeGs B0 w E) :
    Calls Tryz.prog 5 #[] w fun e w' => e = .returned (.bool true) ∧ Below w.heap.size w w' := by
  have HE := hidd (fun W (hW : Below w.heap.size w W) => hE.ob hW)
  clear hE
  go_enter Tryz.func5, Tryz.ntmps5
  go_wp2_with fail
  refine (tableOf_ok (pc := True) 4 w (by omega) (by omega)).mono ?_
  rintro e w1 ⟨t, p, r, ps, rs, m, v, rfl, htb, hB1⟩
  go_wp2_with fail
  refine (make_ok w.heap.size t p r ps rs m 0 _ _ _ ⟨#[97, 98, 99]⟩ false w1 htb (by omega) hB1.size (by decide) (by decide)).mono ?_
  rintro e w2 ⟨k0, x, rfl, hk0, -, -, hxd, -, -, hxb, htb2, hf2, -⟩
  obtain rfl : k0 = 0 := by omega
  have hbl : x.bl = [0] := by rw [hxb]; decide
  have hB2 : Below w.heap.size w w2 := hB1.trans (hf2.below hB1.size (by rintro i (e | e | e | e) <;> have := htb.base <;> omega))
  have hsz2 : Sz (lsN (List.replicate 4 (zb 16)) x.bl ⟨#[97, 98, 99]⟩ x.bl.length) [] := (a16_start 4).lsN _ _ _
  have hx := upd_same (fun _ => none) 0 (some x)
  have hr2 := readB_pcs (htb2.ok 0 x hx).len ((htb2.ok 0 x hx).pcs trivial)
  have hks := keys1 x
  have hlen : (lsN (List.replicate 4 (zb 16)) x.bl ⟨#[97, 98, 99]⟩ x.bl.length).length = 4 := by rw [lsN_len]; simp
  generalize lsN (List.replicate 4 (zb 16)) x.bl ⟨#[97, 98, 99]⟩ x.bl.length = ls2 at *
  generalize (tk (List.replicate 4 false) (needN (⟨#[97, 98, 99]⟩ : ByteArray).size) (List.replicate 4 false).length).2 = us2 at *
  generalize upd (fun _ => none) 0 (some x) = T at *
  have HSC := hidd (scan_any w.heap.size t p r ps rs m _ T us2 ls2 w2 htb2 (by omega) hsz2 E codeGs B0 (HE.out w2 hB2) (by decide))
  have hc0 := htb2.c0
  have HT2 := hidd htb2
  have HKS := hidd hks
  have HX := hidd hx
  have HR2 := hidd hr2
  have HXD := hidd hxd
  have HBL := hidd hbl
  clear htb hf2 hxb hB1 htb2 hks hx hr2 hxd hbl
  go_wp2_with fail
  refine HSC.out.mono ?_
  rintro e w3 ⟨kl, out, oa, oc, hko, hout, rfl, hsl, hb3⟩
  have hon : out = [] := by rw [hout, hko.one HKS.out]; simp [badI_ok HX.out HR2.out]
  subst hon
  have hB3 := below_step hB2 hb3
  have htb3 := HT2.out.ob hb3
  have hc3 := htb3.c0
  have HRT := hidd (rot_tb w.heap.size t p r ps rs m _ T us2 ls2 0 3 w3 htb3 hsz2 (by omega) (by omega))
  have HT3 := hidd htb3
  clear hko hout hsl hb3 HSC HT2 htb3 hc0 kl
  go_wp2_with fail
  refine (tdisk_any t p w3 hc3).mono ?_
  rintro e w4 ⟨rfl, rfl⟩
  go_wp2_with fail
  refine HRT.out.mono ?_
  rintro e w5 ⟨rfl, htb5, hsz5, hf5⟩
  have hB5 : Below w.heap.size w w5 := hB3.trans (HT3.out.low hB3.size hf5)
  have hbad := readB_turn (at_ := 3) (HT3.out.s16 hsz2 HX.out) (HT3.out.ok 0 x HX.out).len (HT3.out.ok 0 x HX.out).nod (HT3.out.ok 0 x HX.out).inr (by rw [HXD.out]; decide)
  rw [show x.bl.getD (3 / 128) 0 = 0 by rw [HBL.out]; rfl, show 3 % 128 = 3 from rfl, HR2.out] at hbad
  generalize ls2.set 0 (turn (ls2.getD 0 ByteArray.empty) 3) = ls5 at *
  have HSC := hidd (scan_any w.heap.size t p r ps rs m _ T us2 ls5 w5 htb5 (by omega) hsz5 E codeGs B0 (HE.out w5 hB5) (by decide))
  have HT5 := hidd htb5
  have HBAD := hidd hbad
  clear hf5 HRT HT3 hB2 hB3 hc3 htb5 hbad hlen hsz2
  go_wp2_with fail
  refine HSC.out.mono ?_
  rintro e w6 ⟨kl, out, oa, oc, hko, hout, rfl, hsl, hb6⟩
  have hon : out = [0] := by rw [hout, hko.one HKS.out]; simp [badI_some HX.out, HBAD.out]
  subst hon
  have hB6 := below_step hB5 hb6
  have hA6 := (Below.refl w6.heap.size w6).alloc (Nat.le_refl _) (.cells #[.int .i64 0] 3)
  have hs2 := Sl.of_owns ((Blk.new w6 [.int .i64 0] 3).owns (base := 0) (Nat.zero_le _) (by decide))
  have HSI := hidd (sameInts_any (.slice oa 1 oc) (.slice (some ⟨w6.heap.size, 0, none⟩) 1 1) [0] [0] _ (hsl.ob hA6 (Nat.le_refl _)) hs2)
  have hB7 := below_step hB6 hA6
  have htb7 := (HT5.out.ob hb6).ob hA6
  have hde : decide (([0] : List Int) = [0]) = true := by decide
  rw [hde] at HSI
  clear hko hout hsl hb6 HSC HT5 hs2 hA6 hB5 kl hde
  go_wp2_with fail
  refine HSI.out.mono ?_
  rintro e w8 ⟨rfl, hb8⟩
  have hB8 := below_step hB7 hb8
  have htb8 := htb7.ob hb8
  have HME := hidd (mend_ok w.heap.size t p r ps rs m _ T us2 ls5 0 x w8 htb8 (by omega) HX.out hsz5 E codeGs B0 (HE.out w8 hB8) (by decide) (by decide))
  rw [HXD.out] at HME
  have HT8 := hidd htb8
  clear HSI htb7 hb8 htb8 hB6 hB7
  go_wp2_with fail
  refine HME.out.mono ?_
  rintro e w9 ⟨hgo, -⟩
  obtain ⟨rfl, htb9, hf9⟩ := hgo (by have := HBAD.out; rw [HXD.out] at this; exact this)
  have hB9 : Below w.heap.size w w9 := hB8.trans (HT8.out.low hB8.size hf9)
  have hr9 := readB_mine HT8.out HX.out
  rw [HXD.out] at hr9
  have HSC := hidd (scan_any w.heap.size t p r ps rs m _ T us2 _ w9 htb9 (by omega) (hsz5.lsN _ _ _) E codeGs B0 (HE.out w9 hB9) (by decide))
  have HR9 := hidd hr9
  clear HME hgo htb9 hf9 hr9 HT8
  go_wp2_with fail
  refine HSC.out.mono ?_
  rintro e w10 ⟨kl, out, oa, oc, hko, hout, rfl, hsl, hb10⟩
  have hon : out = [] := by rw [hout, hko.one HKS.out]; simp [badI_ok HX.out (HR9.out.trans HXD.out.symm)]
  subst hon
  have hB10 := below_step hB9 hb10
  clear hko hout hsl hb10 HSC kl
  go_wp2_with fail
  go_ret
  exact ⟨rfl, hB10⟩

set_option maxRecDepth 100000 in
set_option maxHeartbeats 40000000 in
theorem scrubMends_true (E : Nat → Addr) (B0 : Nat) (a b : ByteArray) (at_ : Int) (w : World) (hE : Env codeGs B0 w E) (hH : Hnd w) (hat : -9223372036854775808 ≤ at_ ∧ at_ ≤ 9223372036854775807) :
    Calls Tryz.prog 3 #[.string a, .string b, .int .i64 at_] w fun e w' => e = .returned (.bool true) ∧ Below w.heap.size w w' := by
  have HE := hidd (fun W (hW : Below w.heap.size w W) => hE.ob hW)
  have HHn := hidd (fun W (hW : Below w.heap.size w W) => hH.below hW (Nat.le_refl _))
  have HSB := hidd (scrubbed_true E B0 w hE)
  clear hE hH
  go_enter Tryz.func3, Tryz.ntmps3
  go_wp2_with fail
  refine HSB.out.mono ?_
  rintro e w1 ⟨rfl, hB1⟩
  clear HSB
  by_cases h1 : a.size < 1
  · have q : (a.size : Int) < 1 := by omega
    go_wp2_with fail
    go_ret
    exact ⟨rfl, hB1⟩
  have q1 : ¬ (a.size : Int) < 1 := by omega
  by_cases h2 : 200 < a.size
  · have q : (200 : Int) < (a.size : Int) := by omega
    go_wp2_with fail
    go_ret
    exact ⟨rfl, hB1⟩
  have q2 : ¬ (200 : Int) < (a.size : Int) := by omega
  by_cases h3 : 200 < b.size
  · have q : (200 : Int) < (b.size : Int) := by omega
    go_wp2_with fail
    go_ret
    exact ⟨rfl, hB1⟩
  have q3 : ¬ (200 : Int) < (b.size : Int) := by omega
  by_cases h4 : at_ < 0
  · go_wp2_with fail
    go_ret
    exact ⟨rfl, hB1⟩
  obtain ⟨n, rfl⟩ := Int.eq_ofNat_of_zero_le (show 0 ≤ at_ by omega)
  have q4 : ¬ (n : Int) < 0 := h4
  by_cases h5 : 8 * a.size ≤ n
  · have q : (8 : Int) * (a.size : Int) ≤ (n : Int) := by omega
    go_wp2_with fail
    go_ret
    exact ⟨rfl, hB1⟩
  have q5 : ¬ (8 : Int) * (a.size : Int) ≤ (n : Int) := by omega
  go_wp2_with fail
  clear q1 q2 q3 q4 q5 h4
  refine (tableOf_ok (pc := True) 40 w1 (by omega) (by omega)).mono ?_
  rintro e w2 ⟨t, p, r, ps, rs, m, v, rfl, htb, hb2⟩
  have hB2 : Below w.heap.size w w2 := below_step hB1 hb2
  have htb' : TbAt True w2 w.heap.size t p r ps rs m 0 (fun _ => none) (List.replicate 40 false) (List.replicate 40 (zb 16)) :=
    { htb with base := by have := htb.base; have := hB1.size; omega, bases := fun _ _ h => by cases h }
  have hf40 : nfree (List.replicate 40 false) = 40 := by decide
  have hnb := need13 (n := b.size) (by omega)
  have hna := need13 (n := a.size) (by omega)
  have HM1 := hidd (make_ok w.heap.size t p r ps rs m 0 _ _ _ b true w2 htb' (by omega) hB2.size (by omega) (by rw [hf40]; omega))
  have HB2 := hidd hB2
  have HT2 := hidd htb'
  clear htb hb2 hB1 htb' hB2
  go_wp2_with fail
  refine HM1.out.mono ?_
  rintro e w3 ⟨k0, x, rfl, hk0, -, -, rfl, -, -, hxb, htb3, hf3, -⟩
  obtain rfl : k0 = 0 := by omega
  have hB3 : Below w.heap.size w w3 := HB2.out.trans (hf3.below HB2.out.size (by rintro i (e | e | e | e) <;> have := HT2.out.base <;> omega))
  have hsz3 : Sz (lsN (List.replicate 40 (zb 16)) x.bl x.data x.bl.length) [] := (a16_start 40).lsN _ _ _
  have hfr3 : nfree (tk (List.replicate 40 false) (needN x.data.size) (List.replicate 40 false).length).2 = 40 - needN x.data.size := by rw [nfree_tk _ _ (by rw [hf40]; omega), hf40]
  generalize lsN (List.replicate 40 (zb 16)) x.bl x.data x.bl.length = ls3 at *
  generalize (tk (List.replicate 40 false) (needN x.data.size) (List.replicate 40 false).length).2 = us3 at *
  have HM2 := hidd (make_ok w.heap.size t p r ps rs m _ _ _ _ a false w3 htb3 (by omega) hB3.size (by omega) (by rw [hfr3]; omega))
  have HB3 := hidd hB3
  have HT3 := hidd htb3
  clear HM1 HT2 HB2 hf3 hxb htb3 hB3 hfr3 hf40
  go_wp2_with fail
  refine HM2.out.mono ?_
  rintro e w4 ⟨k1, y, rfl, -, hk1, hk1l, rfl, -, -, hyb, htb4, hf4, -⟩
  obtain rfl : k1 = 1 := by
    rcases Nat.lt_trichotomy k1 1 with h | h | h
    · obtain rfl : k1 = 0 := by omega
      rw [upd_same] at hk1
      cases hk1
    · exact h
    · obtain ⟨z, hz⟩ := hk1l 1 h
      rw [upd_other _ _ _ (by omega)] at hz
      cases hz
  have hB4 : Below w.heap.size w w4 := HB3.out.trans (hf4.below HB3.out.size (by rintro i (e | e | e | e) <;> have := HT3.out.base <;> omega))
  have hsz4 : Sz (lsN ls3 y.bl y.data y.bl.length) [] := hsz3.lsN _ _ _
  have hks := keys2 x y
  have hx : upd (upd (fun _ => none) 0 (some x)) 1 (some y) 0 = some x := by rw [upd_other _ _ _ (by omega), upd_same]
  have hy : upd (upd (fun _ => none) 0 (some x)) 1 (some y) 1 = some y := upd_same _ _ _
  have hrx := readB_pcs (htb4.ok 0 x hx).len ((htb4.ok 0 x hx).pcs trivial)
  have hry := readB_pcs (htb4.ok 1 y hy).len ((htb4.ok 1 y hy).pcs trivial)
  generalize lsN ls3 y.bl y.data y.bl.length = ls4 at *
  generalize (tk us3 (needN y.data.size) us3.length).2 = us4 at *
  generalize upd (upd (fun _ => none) 0 (some x)) 1 (some y) = T at *
  have HST := hidd (stat_ok w.heap.size t p r ps rs m _ T us4 ls4 1 y w4 htb4 (by omega) hy)
  have HB4 := hidd hB4
  have HT4 := hidd htb4
  have HX := hidd hx
  have HY := hidd hy
  have HRX := hidd hrx
  have HRY := hidd hry
  have HKS := hidd hks
  have HS4 := hidd hsz4
  clear HM2 HT3 HB3 hf4 hyb htb4 hB4 hk1 hk1l hx hy hrx hry hks hsz3 hsz4
  go_wp2_with fail
  refine HST.out.mono ?_
  rintro e w5 ⟨sa, sc, rfl, how, hb5⟩
  have hA5 := (Below.refl w5.heap.size w5).alloc (Nat.le_refl _) (.cells #[.int .i64 (y.data.size : Int), .int .i64 (y.links : Int), .bool y.exec, .slice sa y.bl.length sc, .int .u32 (crc y.data.data.toList : Nat)] 34)
  have hbk := Blk.new w5 [.int .i64 (y.data.size : Int), .int .i64 (y.links : Int), .bool y.exec, .slice sa y.bl.length sc, .int .u32 (crc y.data.data.toList : Nat)] 34
  have how6 := (how.ob hA5)
  have hb6 := below_step hb5 hA5
  go_upto_region 12 with fail
  obtain ⟨fb, hfb⟩ : ∃ fb, w5.heap.size = fb := ⟨_, rfl⟩
  rw [hfb] at hbk ⊢
  clear hfb how hb5 hA5
  generalize w5.alloc (.cells #[.int .i64 (y.data.size : Int), .int .i64 (y.links : Int), .bool y.exec, .slice sa y.bl.length sc, .int .u32 (crc y.data.data.toList : Nat)] 34) = w6 at *
  obtain ⟨i, hi⟩ : ∃ i, n / 128 = i := ⟨_, rfl⟩
  obtain ⟨bit, hbit⟩ : ∃ bit, n % 128 = bit := ⟨_, rfl⟩
  have hylen := (HT4.out.ok 1 y HY.out).len
  have hyhi := needN_hi y.data.size
  have hil : i < y.bl.length := by omega
  have hbit8 : bit < 128 := by omega
  obtain ⟨m8, hm8⟩ : ∃ m8, n / 8 = m8 := ⟨_, rfl⟩
  have e0 : (n : Int) / 8 = (m8 : Int) := by omega
  have e1 : (m8 : Int) / 16 = (i : Int) := by omega
  have e2 : (n : Int) % 128 = (bit : Int) := by omega
  have u1 : (0 : Int) ≤ (n : Int) := by omega
  have u2 : (n : Int) < 1600 := by omega
  have u3 : (0 : Int) ≤ (m8 : Int) := by omega
  have u4 : (m8 : Int) < 200 := by omega
  have u5 : (i : Int) < 13 := by omega
  have t1 : (n : Int).tdiv 8 = (m8 : Int) := by rw [Int.tdiv_eq_ediv_of_nonneg u1]; exact e0
  have t2 : (m8 : Int).tdiv 16 = (i : Int) := by rw [Int.tdiv_eq_ediv_of_nonneg u3]; exact e1
  have t3 : (n : Int).tmod 128 = (bit : Int) := by rw [Int.tmod_eq_emod_of_nonneg u1]; exact e2
  have v1 : IntKind.i64.wrap (m8 : Int) = (m8 : Int) := i64_in _ (by omega)
  have v2 : IntKind.i64.wrap (i : Int) = (i : Int) := i64_in _ (by omega)
  have v3 : IntKind.i64.wrap (bit : Int) = (bit : Int) := i64_in _ (by omega)
  have q1 : ¬ (y.bl.length : Int) ≤ (i : Int) := by omega
  have q2 : (0 : Int) ≤ (i : Int) := by omega
  have q3 : (i : Int) < (y.bl.length : Int) := by omega
  have d3 := hbk.cell (i := 3) rfl
  obtain ⟨sb, so, rfl, -, hcb, hcell⟩ := how6.sl.at1 hil
  rw [show (ints y.bl)[i] = .int .i64 ((y.bl[i] : Nat) : Int) by simp [ints]] at hcell
  have hgm : y.bl[i] ∈ y.bl := List.getElem_mem hil
  have hgd : y.bl.getD i 0 = y.bl[i] := by rw [List.getD_eq_getElem?_getD, List.getElem?_eq_getElem hil]; rfl
  generalize y.bl[i] = g at *
  have hq6 := HT4.out.ob hb6
  have hB6 := below_step HB4.out hb6
  have hyo := HT4.out.ok 1 y HY.out
  have hgl := hyo.inr g hgm
  have hbad := readB_turn (at_ := n) (HT4.out.s16 HS4.out HY.out) hyo.len hyo.nod hyo.inr (by omega)
  rw [hi, hbit, hgd, HRY.out] at hbad
  have hrx7 := readB_set HT4.out HX.out HY.out (by omega) hgm (turn (ls4.getD g ByteArray.empty) bit)
  rw [HRX.out] at hrx7
  have hsz7 : Sz (ls4.set g (turn (ls4.getD g ByteArray.empty) bit)) [] := HS4.out.put g (by rw [turn_size]; exact HS4.out.at hgl)
  have hrt := rot_tb w.heap.size t p r ps rs m _ T us4 ls4 g bit w6.drew (hq6.ob ((Below.refl w6.heap.size w6).drew)) HS4.out hgl hbit8
  unfold RtPost at hrt
  generalize ls4.set g (turn (ls4.getD g ByteArray.empty) bit) = ls7 at *
  have HRT := hidd hrt
  have HSZ7 := hidd hsz7
  have hout7 : [0, 1].filter (badI ls7 T) = [1] := by simp [badI_ok HX.out hrx7, badI_some HY.out, hbad]
  have HSC := hidd (fun W (hW : TbQ w t p r ps rs m (0 + 1 + 1) T us4 ls7 W) => scan_to hW (by omega) hsz7 HE.out [1] 1 HKS.out hout7 rfl)
  have HD6 := hidd (show Below w.heap.size w w6.drew from hB6.drew)
  have HQ6 := hidd (show TbAt True w6.drew w.heap.size t p r ps rs m _ T us4 ls4 from hq6.ob ((Below.refl w6.heap.size w6).drew))
  have HBAD := hidd hbad
  have HRX7 := hidd hrx7
  have d3' : w6.drew.cell? ⟨fb, 3, none⟩ = _ := d3
  have hcell' : w6.drew.cell? ⟨sb, so + i, none⟩ = _ := hcell
  have HCS := hidd (fun W (hW : Fr (fun b => b = p ∨ b = r) w6.drew W) => show W.cell? ⟨fb, 3, none⟩ = some (.slice (some ⟨sb, so, none⟩) y.bl.length sc) ∧ W.cell? ⟨sb, so + i, none⟩ = some (.int .i64 (g : Int)) from
    ⟨hW.cell d3' (by rintro (e | e); exact blk_ne hbk hq6.dk.head (by decide) e; exact blk_ne hbk hq6.dk.row (by decide) e),
     hW.cell hcell' (by rintro (e | e); exact own_ne how6 hq6.dk.head (by decide) (by simp [Value.ownBlock]; exact e); exact own_ne how6 hq6.dk.row (by decide) (by simp [Value.ownBlock]; exact e))⟩)
  have hfr6 : Fr (fun b => b = p ∨ b = r) w6.drew w6.drew := Fr.refl _ _
  have hcd : w6.drew.cell? ⟨t, 0, none⟩ = some (.pointer (some ⟨p, 0, none⟩)) := HQ6.out.c0
  have HNL := hidd (show n < 8 * y.data.size by omega)
  clear hbad hrx7 hsz7 hrt hout7 hq6 hB6 hyo hgl hgd hgm HST HB4 HT4 HRX HRY how6 hb6 hbk h3 h2 h1 h5 hnb hna hi hbit hyhi hylen HS4
  go_upto_region 14 with fail
  first
    | (go_region_held3 (fun W' => W'.cell? ⟨fb, 3, none⟩ = some (.slice (some ⟨sb, so, none⟩) y.bl.length sc) ∧ W'.cell? ⟨sb, so + i, none⟩ = some (.int .i64 (g : Int)))
        (first | exact HCS.out _ (by assumption))
        (first
          | (go_at_call 9; (with_reducible refine (tdisk_any t p _ hcd).mono ?_); rintro e w9 ⟨rfl, rfl⟩)
          | (go_at_call 10; (with_reducible refine HRT.out.mono ?_); rintro e w8 ⟨rfl, htb8, hz8, hf8⟩; have hq8 : TbQ w t p r ps rs m (0 + 1 + 1) T us4 ls7 w8 := ⟨htb8, HD6.out.trans (HQ6.out.low HD6.out.size hf8)⟩; have hq8a := hq8.later ((Below.refl w8.heap.size w8).alloc (Nat.le_refl _) (.cells #[.int .i64 1] 3)); have hf8a := hf8.alloc (.cells #[.int .i64 1] 3))
          | (go_at_call 12; (with_reducible refine (HSC.out _ hq8).mono ?_); rintro e w10 ⟨oa, oc, rfl, hsl, hb10⟩; have hq10 := hq8.later hb10; have hf10 := hf8.trans (Fr.ob hb10); have hf10a := hf10.alloc (.cells #[.int .i64 1] 3); have hq10a := hq10.later ((Below.refl w10.heap.size w10).alloc (Nat.le_refl _) (.cells #[.int .i64 1] 3)); have HSIa := hidd (si_one (hsl.ob ((Below.refl w10.heap.size w10).alloc (Nat.le_refl _) (.cells #[.int .i64 1] 3)) (Nat.le_refl _)) (sl_one w10)))
          | (go_at_call 12; (with_reducible refine (HSC.out _ hq8a).mono ?_); rintro e w10 ⟨oa, oc, rfl, hsl, hb10⟩; have hq10 := hq8a.later hb10; have hf10 := hf8a.trans (Fr.ob hb10); have HSIb := hidd (si_one hsl ((sl_one w8).ob hb10 (Nat.le_refl _))))
          | (go_at_call 11; (with_reducible refine HSIa.out.mono ?_); rintro e w11 ⟨rfl, hb11⟩; have hq11 := hq10a.later hb11; have hf11 := hf10a.trans (Fr.ob hb11))
          | (go_at_call 11; (with_reducible refine HSIb.out.mono ?_); rintro e w11 ⟨rfl, hb11⟩; have hq11 := hq10.later hb11; have hf11 := hf10.trans (Fr.ob hb11))))
    | fail
  all_goals
    have hrd := iread_any w.heap.size t p r ps rs m _ T us4 ls7 1 y w11 hq11.1 (by omega) HY.out (hq11.1.s16 HSZ7.out HY.out) E codeGs B0 (HE.out _ hq11.2) (by decide)
    unfold RgPost at hrd
    rw [if_neg HBAD.out] at hrd
    unfold erv at hrd
    have HRD := hidd hrd
    have HQ11 := hidd hq11
    clear hrd hq11 HSC HRT HD6 HQ6 d3 d3' hcell hcell' HCS hfr6 hcd hq8a hf8a hf10 hq10 hsl hb10 hf8 hz8 htb8 hf11 hb11 hq8 v1 v2 v3 t1 t2 t3 u1 u2 u3 u4 u5 e0 e1 e2 q1 q2 q3 hcb hil
    go_wp2_with fail
    refine HRD.out.mono ?_
    rintro e w12 ⟨rfl, hb12⟩
    have hq12 := HQ11.out.later hb12
    have hcd := coded2 E B0 w12 (HE.out _ hq12.2) (HHn.out _ hq12.2) (erv E 2) 11 (.inr ⟨10, by decide, rfl, rfl⟩) 11
    rw [show decide (((11 : Nat) : Int) = 11) = true by decide] at hcd
    unfold erv at hcd
    have HCD := hidd hcd
    have HQ12 := hidd hq12
    clear hcd hq12 hb12 HRD HQ11
    by_cases hlen : y.data.size = x.data.size
    all_goals
      first
      | (have hne : (y.data.size : Int) = (x.data.size : Int) := by omega
         clear hlen
         go_wp2_with fail
         refine HCD.out.mono ?_
         rintro e w17 ⟨rfl, hb17⟩
         have hq17 := HQ12.out.later hb17
         clear HCD HQ12 hb17)
      | (have hne : ¬ (y.data.size : Int) = (x.data.size : Int) := by omega
         go_wp2_with fail
         refine HCD.out.mono ?_
         rintro e w13 ⟨rfl, hb13⟩
         have hq13 := HQ12.out.later hb13
         have hms := mend_sum w.heap.size t p r ps rs m _ T us4 ls7 1 y x.data w13 hq13.1 (by omega) HY.out E codeGs B0 (HE.out _ hq13.2) (by decide) (fun e => hlen e.symm)
         unfold erv at hms
         have HMS := hidd hms
         have HQ13 := hidd hq13
         clear hms hq13 HCD HQ12 hb13 hlen
         go_wp2_with fail
         refine HMS.out.mono ?_
         rintro e w14 ⟨rfl, hb14⟩
         have hq14 := HQ13.out.later hb14
         have hcd := coded2 E B0 w14 (HE.out _ hq14.2) (HHn.out _ hq14.2) (erv E 2) 11 (.inr ⟨10, by decide, rfl, rfl⟩) 11
         rw [show decide (((11 : Nat) : Int) = 11) = true by decide] at hcd
         unfold erv at hcd
         have HCD := hidd hcd
         have HQ14 := hidd hq14
         clear hcd hq14 hb14 HQ13 HMS
         go_wp2_with fail
         refine HCD.out.mono ?_
         rintro e w17 ⟨rfl, hb17⟩
         have hq17 := HQ14.out.later hb17
         clear HCD HQ14 hb17)
    all_goals
      have HME := hidd (mend_ok w.heap.size t p r ps rs m _ T us4 ls7 1 y w17 hq17.1 (by omega) HY.out HSZ7.out E codeGs B0 (HE.out _ hq17.2) (by decide) (by decide))
      have HQ17 := hidd hq17
      clear hq17
      go_wp2_with fail
      clear hne
      refine HME.out.mono ?_
      rintro e w18 ⟨hgo, -⟩
      obtain ⟨rfl, htb18, hf18⟩ := hgo HBAD.out
      have hq18 : TbQ w t p r ps rs m (0 + 1 + 1) T us4 (lsN ls7 y.bl y.data y.bl.length) w18 := ⟨htb18, HQ17.out.2.trans (HQ17.out.1.low HQ17.out.2.size hf18)⟩
      have hr8y := readB_mine HQ17.out.1 HY.out
      have hr8x := (readB_other HQ17.out.1 HX.out HY.out (by omega) y.data).trans HRX7.out
      have hz8 := HSZ7.out.lsN y.bl y.data y.bl.length
      generalize lsN ls7 y.bl y.data y.bl.length = ls8 at *
      have hout8 : [0, 1].filter (badI ls8 T) = [] := by simp [badI_ok HX.out hr8x, badI_ok HY.out hr8y]
      have HSC := hidd (scan_to hq18 (by omega) hz8 HE.out [] 0 HKS.out hout8 rfl)
      have HR8Y := hidd hr8y
      have HR8X := hidd hr8x
      have HZ8 := hidd hz8
      have HQ18 := hidd hq18
      clear hgo htb18 hf18 hq18 hr8y hr8x hz8 hout8 HME HQ17
      go_wp2_with fail
      refine HSC.out.mono ?_
      rintro e w19 ⟨oa9, oc9, rfl, -, hb19⟩
      have hq19 := HQ18.out.later hb19
      have HME := hidd (mend_ok w.heap.size t p r ps rs m _ T us4 ls8 1 y w19 hq19.1 (by omega) HY.out HZ8.out E codeGs B0 (HE.out _ hq19.2) (by decide) (by decide))
      have HQ19 := hidd hq19
      clear hq19 hb19 HQ18 HSC
      go_wp2_with fail
      refine HME.out.mono ?_
      rintro e w20 ⟨-, hgo⟩
      obtain ⟨rfl, hb20⟩ := hgo (by rw [HR8Y.out])
      have hq20 := HQ19.out.later hb20
      have hcd := coded2 E B0 w20 (HE.out _ hq20.2) (HHn.out _ hq20.2) (erv E 4) 7 (.inr ⟨6, by decide, rfl, rfl⟩) 7
      rw [show decide (((7 : Nat) : Int) = 7) = true by decide] at hcd
      unfold erv at hcd
      unfold erv
      have HCD := hidd hcd
      have HQ20 := hidd hq20
      clear hcd hq20 hgo hb20 HME HQ19
      go_wp2_with fail
      refine HCD.out.mono ?_
      rintro e w21 ⟨rfl, hb21⟩
      have hq21 := HQ20.out.later hb21
      have hrd := iread_any w.heap.size t p r ps rs m _ T us4 ls8 0 x w21 hq21.1 (by omega) HX.out (hq21.1.s16 HZ8.out HX.out) E codeGs B0 (HE.out _ hq21.2) (by decide)
      unfold RgPost at hrd
      rw [HR8X.out, if_pos rfl] at hrd
      have HRD := hidd hrd
      have HQ21 := hidd hq21
      clear hrd hq21 hb21 HCD HQ20
      go_wp2_with fail
      refine HRD.out.mono ?_
      rintro e w22 ⟨rfl, hb22⟩
      have hq22 := HQ21.out.later hb22
      have hrd := iread_any w.heap.size t p r ps rs m _ T us4 ls8 1 y w22 hq22.1 (by omega) HY.out (hq22.1.s16 HZ8.out HY.out) E codeGs B0 (HE.out _ hq22.2) (by decide)
      unfold RgPost at hrd
      rw [HR8Y.out, if_pos rfl] at hrd
      have HRY := hidd hrd
      have HQ22 := hidd hq22
      clear hrd hq22 hb22 HRD HQ21
      go_wp2_with fail
      refine HRY.out.mono ?_
      rintro e w23 ⟨rfl, hb23⟩
      have hq23 := HQ22.out.later hb23
      have hb23' := hq23.2
      clear hq23 hb23 HRY HQ22
      go_wp2_with fail
      go_ret
      exact ⟨by simp, hb23'⟩
end Go.Proofs.YtcpilhembdphoaaGreatDoor
