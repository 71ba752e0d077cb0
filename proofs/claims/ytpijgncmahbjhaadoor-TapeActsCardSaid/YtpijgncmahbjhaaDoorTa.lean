/- stillroomlaw3.TapeActs, walked. Condition: the arguments are there, the listed variables read as listed. -/
import Derived.Test.YtpijgncmahbjhaaDoorTm3
namespace Go.Proofs.YtpijgncmahbjhaaDoor
open Go.RowKit

structure WrD where
  kind : ByteArray
  s : ByteArray
  n : Int

/-- The argument: a list of acts. -/
def WritesD (w : World) (a : Option Addr) (L : List WrD) : Prop :=
  ∀ i (hi : i < L.length), ∃ b off, a = some ⟨b, off, none⟩ ∧ w.cell? ⟨b, off + i * 3, none⟩ = some (.string L[i].kind) ∧ w.cell? ⟨b, off + i * 3 + 1, none⟩ = some (.string L[i].s) ∧ w.cell? ⟨b, off + i * 3 + 2, none⟩ = some (.int .i64 L[i].n) ∧ L[i].n ≤ 9223372036854775807

/-- Where the loop stands: the tape and its model are alike. -/
structure TaSt (w wr : World) (p : Nat) (v : Value) (q : Nat) (bs : ByteArray) (off : Bool) (cut : Int) : Prop where
  disk : TdAt wr p v bs off cut
  model : MdAt wr q bs off cut
  low : ∀ g, tdS p v g → w.heap.size ≤ g
  qlow : w.heap.size ≤ q
  ne : ∀ g, tdS p v g → g ≠ q
  below : Below w.heap.size w wr
  cu : cut ≤ 9223372036854775807
section
variable {w wr wr' : World} {p q : Nat} {v v' : Value} {bs bs' : ByteArray} {off off' : Bool} {cut cut' : Int}
theorem TaSt.ob (h : TaSt w wr p v q bs off cut) (hb : Below wr.heap.size wr wr') : TaSt w wr' p v q bs off cut :=
  ⟨h.disk.ob hb (Nat.le_refl _), Blk.below h.model hb (Blk.lt h.model), h.low, h.qlow, h.ne, h.below.trans (hb.mono h.below.size), h.cu⟩
/-- The tape has acted; its model not yet. -/
theorem TaSt.half (h : TaSt w wr p v q bs off cut) (h2 : ∀ b, v'.ownBlock = some b → v.ownBlock = some b ∨ wr.heap.size ≤ b) (h3 : Fr (tdS p v) wr wr') :
    MdAt wr' q bs off cut ∧ (∀ g, tdS p v' g → w.heap.size ≤ g) ∧ (∀ g, tdS p v' g → g ≠ q) ∧ Below w.heap.size w wr' := by
  have hq := Blk.lt h.model
  refine ⟨Blk.fr h.model h3 (fun e => h.ne q e rfl), fun g hg => ?_, fun g hg => ?_, h.below.trans (h3.below h.below.size h.low)⟩
  · rcases hg with rfl | hg
    · exact h.low g (.inl rfl)
    · rcases h2 g hg with h' | h'
      · exact h.low g (.inr h')
      · exact Nat.le_trans h.below.size h'
  · rcases hg with rfl | hg
    · exact h.ne g (.inl rfl)
    · rcases h2 g hg with h' | h'
      · exact h.ne g (.inr h')
      · omega
theorem TaSt.mk2 {W W' : World} (hd : TdAt W p v' bs' off' cut') (hl : ∀ g, tdS p v' g → w.heap.size ≤ g) (hn : ∀ g, tdS p v' g → g ≠ q) (hq : w.heap.size ≤ q) (hb : Below w.heap.size w W) (hm : MdAt W' q bs' off' cut') (hf : Fr (fun b => b = q) W W') (hc : cut' ≤ 9223372036854775807) :
    TaSt w W' p v' q bs' off' cut' :=
  ⟨hd.fr hf (fun g hg e => hn g hg e), hm, hl, hq, hn, hb.trans (hf.below hb.size (fun i hi => by omega)), hc⟩
end
theorem apR_size (bs : ByteArray) (off : Bool) (cut : Int) (s : ByteArray) (hs : s.size ≤ 200 ∨ s.size = 20001) : (apR bs off cut s).1.size ≤ bs.size + 210 := by
  unfold apR
  split
  · simp
  · split
    · simp
    · have := recB_le s (by omega)
      split
      · simp only [ByteArray.size_append, ByteArray.size_extract]; omega
      · simp only [ByteArray.size_append]; omega
theorem apR_cut (bs : ByteArray) (off : Bool) (cut : Int) (s : ByteArray) (hc : cut ≤ 9223372036854775807) : (apR bs off cut s).2.2.1 ≤ 9223372036854775807 := by
  unfold apR
  split
  · exact hc
  · split
    · exact hc
    · split
      · exact hc
      · simp only
        split <;> omega

set_option maxRecDepth 100000 in
set_option maxHeartbeats 4000000 in
theorem ta_early (b : ByteArray) (a : Option Addr) (len cap : Nat) (w : World) (hT : TEnv w) (h : 2000 < b.size ∨ 50 < len) :
    Calls Tryd.prog 5 #[.string b, .slice a len cap] w fun e w' => e = .returned (.bool true) ∧ Below w.heap.size w w' := by
  by_cases h1 : 2000 < b.size
  · have d1 : decide ((2000 : Int) < (b.size : Int)) = true := decide_eq_true (by omega)
    have d1' : decide (2000 < b.size) = true := decide_eq_true h1
    clear h
    go_enter Tryd.func5, Tryd.ntmps5
    go_wp2_with fail
    refine (taped_true w hT).mono ?_
    rintro e w1 ⟨rfl, hb1⟩
    go_wp2_with fail
    go_ret
    exact ⟨rfl, hb1⟩
  · have d1 : decide ((2000 : Int) < (b.size : Int)) = false := decide_eq_false (by omega)
    have d1' : decide (2000 < b.size) = false := decide_eq_false h1
    have h2 : 50 < len := by omega
    have d2 : decide ((50 : Int) < (len : Int)) = true := decide_eq_true (by omega)
    have d2' : decide (50 < len) = true := decide_eq_true h2
    clear h
    go_enter Tryd.func5, Tryd.ntmps5
    go_wp2_with fail
    refine (taped_true w hT).mono ?_
    rintro e w1 ⟨rfl, hb1⟩
    go_wp2_with fail
    go_ret
    exact ⟨rfl, hb1⟩

set_option maxRecDepth 100000 in
set_option maxHeartbeats 40000000 in
theorem ta_good (E : Nat → Addr) (b : ByteArray) (a : Option Addr) (cap : Nat) (L : List WrD) (w : World) (hL : WritesD w a L) (hT : TEnv w) (hE : Env codeGs w.heap.size w E) (hh : Hnd w) (h1 : b.size ≤ 2000) (h2 : L.length ≤ 50) :
    Calls Tryd.prog 5 #[.string b, .slice a L.length cap] w fun e w' => e = .returned (.bool true) ∧ Below w.heap.size w w' := by
  have d1 : decide ((2000 : Int) < (b.size : Int)) = false := decide_eq_false (by omega)
  have d1' : decide (2000 < b.size) = false := decide_eq_false (by omega)
  have d2 : decide ((50 : Int) < (L.length : Int)) = false := decide_eq_false (by omega)
  have d2' : decide (50 < L.length) = false := decide_eq_false (by omega)
  go_enter Tryd.func5, Tryd.ntmps5
  go_wp2_with fail
  refine (taped_true w hT).mono ?_
  rintro e w1 ⟨rfl, hb1⟩
  go_wp2_with fail
  refine (newdisk_ok b w1 (by omega)).mono ?_
  rintro e w2 ⟨p, v0, rfl, hd, hlow, hb2⟩
  have hB2 := hb1.trans (hb2.mono hb1.size)
  have hm0 := Blk.new w2 [.string b, .bool false, .int .i64 (-1)] 42
  have hst0 : TaSt w (w2.alloc (.cells [.string b, .bool false, .int .i64 (-1)].toArray 42)) p v0 w2.heap.size b false (-1) :=
    ⟨hd.ob ((Below.refl w2.heap.size w2).alloc (Nat.le_refl _) _) (Nat.le_refl _), hm0, fun g hg => Nat.le_trans hb1.size (hlow g hg), hB2.size, fun g hg e => by have := hd.lt g hg; omega, hB2.alloc hB2.size _, by omega⟩
  have HST := hidd hst0
  obtain ⟨q, hq⟩ : ∃ q, w2.heap.size = q := ⟨_, rfl⟩
  clear hb1 hb2 hB2 hd hlow hm0 hst0 d1 d1' d2 d2'
  go_wp2_with fail
  rw [hq] at HST
  clear hq
  go_loopw [9] (fun t wr => ∃ (i : Nat) (v : Value) (bs : ByteArray) (off : Bool) (cut : Int), i ≤ L.length ∧ t = .int .i64 (i : Int) ∧ TaSt w wr p v q bs off cut ∧ bs.size ≤ 2000 + 210 * i) (fun t _ => L.length - (intOf t).toNat)
  case atStart => exact ⟨0, v0, b, false, -1, Nat.zero_le _, rfl, HST.out, by omega⟩
  case round =>
    obtain ⟨i, v, bs, off, cut, hi', rfl, hst, hbs⟩ := hrel
    clear HST
    by_cases hlt : i < L.length
    · obtain ⟨sb, so, rfl, c0, c1, c2, c3⟩ := hL i hlt
      have hB := hst.below
      rw [← hB.cell (World.block_lt_of_cell? w _ c0)] at c0
      rw [← hB.cell (World.block_lt_of_cell? w _ c1)] at c1
      rw [← hB.cell (World.block_lt_of_cell? w _ c2)] at c2
      have q1 : (0 : Int) ≤ (i : Int) := by omega
      have q2 : (i : Int) < (L.length : Int) := by omega
      rcases hx : L[i] with ⟨kd, xs, xn⟩
      simp only [hx] at c0 c1 c2 c3
      clear hx
      have hq0 := Blk.new wr [.string kd, .string xs, .int .i64 xn] 44
      have hst1 := hst.ob ((Below.refl wr.heap.size wr).alloc (Nat.le_refl _) (.cells [.string kd, .string xs, .int .i64 xn].toArray 44))
      have eW : wr.alloc (.cells [.string kd, .string xs, .int .i64 xn].toArray 44) = wr.alloc (.cells #[.string kd, .string xs, .int .i64 xn] 44) := rfl
      rw [eW] at hq0 hst1
      have haq : ∀ g, tdS p v g ∨ g = q → g < wr.heap.size := fun g hg => hg.elim (hst.disk.lt g) (fun e => e ▸ Blk.lt hst.model)
      clear eW hst hB
      by_cases h200 : xs.size ≤ 200 ∨ xs.size = 20001
      · have hd : (decide ((200 : Int) < (xs.size : Int)) = false ∧ decide (200 < xs.size) = false) ∨ (decide ((200 : Int) < (xs.size : Int)) = true ∧ decide (200 < xs.size) = true ∧ ((xs.size : Int) != 20001) = false) := by
          rcases h200 with h | h
          · exact .inl ⟨decide_eq_false (by omega), decide_eq_false (by omega)⟩
          · exact .inr ⟨decide_eq_true (by omega), decide_eq_true (by omega), by simp; omega⟩
        have hq0l := hq0.lt
        have HBS := hidd hbs
        have HSZ := hidd h200
        clear hbs h200
        cases hk1 : kd.toList == [97, 112, 112, 101, 110, 100]
        · cases hk2 : kd.toList == [99, 117, 116]
          · cases hk3 : kd.toList == [111, 110]
            · rcases hd with ⟨z1, z1'⟩ | ⟨z1, z1', z2⟩
              all_goals
                go_wp2_with fail
                generalize hW0 : wr.alloc _ = W0 at *
                generalize hAq : wr.heap.size = aq at *
                clear hW0 hAq
                have hpl := hst1.low p (.inl rfl)
                have hbsz : bs.size ≤ 4000000 := by have := HBS.out; omega
                have hql := Blk.lt hst1.model
                refine (recover_any p v bs off cut w _ hst1.disk hT hst1.below hpl hbsz).mono ?_
                rintro e w' ⟨l, t, u, v4, hrd, rfl, hou, hd', hov, hf0⟩
                have hf' : Fr (tdS p v) _ w' := hf0.mono (fun i _ h => .inl h)
                have hsz' := hf0.size
                obtain ⟨hm', hl', hn', hb'⟩ := hst1.half (v' := v4) (fun b hb => .inl (by rw [← hov]; exact hb)) hf'
                have hz1 : (bs.extract 0 (recs l).length).size ≤ 2000 + 210 * (i + 1) := by have := HBS.out; rw [ByteArray.size_extract]; omega
                have hqn := hst1.qlow
                obtain ⟨ua, uc, rfl⟩ := hou.shape
                have HRD := hidd hrd
                clear hrd hf0 hf' hov hst1 c0 c1 c2 c3 hq0
                go_wp2_with fail
                refine (mrecover_any q bs off cut _ hm' hbsz).mono ?_
                rintro e w3 ⟨l2, t2, u2, hrd2, rfl, hou2, hm3, hf3⟩
                obtain ⟨e2, -⟩ := Rd.uniq hrd2 HRD.out
                subst e2
                have hst2 := TaSt.mk2 hd' hl' hn' hqn hb' hm3 hf3 (by omega)
                have hou3 := hou.fr hf3 (fun k hk e => by have := (hou.blk k hk).1; omega)
                obtain ⟨ua2, uc2, rfl⟩ := hou2.shape
                have hs1 := hou3.sl
                have hs2 := hou2.sl
                clear hd' hl' hn' hqn hb' hm3 hf3 hou hou2 hou3 hrd2 hm'
                go_wp2_with fail
                refine (sameTexts_any _ _ l2 l2 _ hs1 hs2).mono ?_
                rintro e w' ⟨rfl, hb3⟩
                rw [decide_eq_true (rfl : l2 = l2)]
                have hst3 := hst2.ob hb3
                clear hst2 hb3 hs1 hs2
                obtain ⟨bs2, hbs2⟩ : ∃ x, bs.extract 0 (recs l2).length = x := ⟨_, rfl⟩
                rw [hbs2] at hst3 hz1
                clear hbs2
                go_wp2_with fail
                generalize w' = W at *
                have hstd := hst3.ob ((Below.refl W.heap.size W).drew)
                have hdd := hstd.disk
                have k0 : W.drew.cell? ⟨q, 0, none⟩ = some (.string bs2) := Blk.cell hstd.model rfl
                have k1 : W.drew.cell? ⟨q, 1, none⟩ = some (.bool false) := Blk.cell hstd.model rfl
                have hb0 : (bs2.toList != bs2.toList) = false := by simp
                have HS := hidd hstd
                have HZ := hidd hz1
                clear hst3 hstd hz1
                go_region_held3 (fun W' => W'.cell? ⟨q, 0, none⟩ = some (.string bs2) ∧ W'.cell? ⟨q, 1, none⟩ = some (.bool false) ∧ W' = W.drew)
                  (first | exact ⟨k0, k1, rfl⟩)
                  (first | (go_at_call 10; refine (bytes_any p _ _ _ _ _ hdd).mono ?_; rintro e w9 ⟨rfl, rfl⟩) | (go_at_call 14; refine (power_any p _ _ _ _ _ hdd).mono ?_; rintro e w9 ⟨rfl, rfl⟩))
                go_wp2_with fail
                go_roundw
                case rel => exact ⟨i + 1, _, _, _, _, hlt, by go_num, HS.out, HZ.out⟩
                case measure => simp [intOf]; omega
            · rcases hd with ⟨z1, z1'⟩ | ⟨z1, z1', z2⟩
              all_goals
                go_wp2_with fail
                generalize hW0 : wr.alloc _ = W0 at *
                generalize hAq : wr.heap.size = aq at *
                clear hW0 hAq
                have hz1 : bs.size ≤ 2000 + 210 * (i + 1) := by have := HBS.out; omega
                refine (on_any p v bs off cut _ hst1.disk).mono ?_
                rintro e w' ⟨⟨u, rfl⟩, hd', hf0⟩
                have hf' : Fr (tdS p v) _ w' := hf0.mono (fun i _ h => .inl h)
                obtain ⟨hm', hl', hn', hb'⟩ := hst1.half (v' := v) (fun b hb => .inl hb) hf'
                have hmq : Blk w' q [.string bs, .bool off, .int .i64 cut] 42 := hm'
                have m1 := hmq.cell (i := 1) (v := .bool off) rfl
                have m2 := hmq.cell (i := 2) (v := .int .i64 cut) rfl
                have g1 := hmq.frozen 1
                have g2 := hmq.frozen 2
                have hst3 : TaSt w ((w'.setCell ⟨q, 1, none⟩ (.bool false)).setCell ⟨q, 2, none⟩ (.int .i64 (-1))) p v q bs false (-1) :=
                  TaSt.mk2 hd' hl' hn' hst1.qlow hb' ((hmq.set 1 _).set 2 _) (((Fr.refl (fun b => b = q) w').setCell (p := ⟨q, 1, none⟩) (.inl rfl) _).setCell (p := ⟨q, 2, none⟩) (.inl rfl) _) (by omega)
                clear hd' hf0 hf' hm' hl' hn' hb' hmq hst1 c0 c1 c2 c3 hq0
                go_wp2_with fail
                generalize World.setCell _ _ _ = W at *
                have hstd := hst3.ob ((Below.refl W.heap.size W).drew)
                have hdd := hstd.disk
                have k0 : W.drew.cell? ⟨q, 0, none⟩ = some (.string bs) := Blk.cell hstd.model rfl
                have k1 : W.drew.cell? ⟨q, 1, none⟩ = some (.bool false) := Blk.cell hstd.model rfl
                have hb0 : (bs.toList != bs.toList) = false := by simp
                have HS := hidd hstd
                have HZ := hidd hz1
                clear hst3 hstd hz1
                go_region_held3 (fun W' => W'.cell? ⟨q, 0, none⟩ = some (.string bs) ∧ W'.cell? ⟨q, 1, none⟩ = some (.bool false) ∧ W' = W.drew)
                  (first | exact ⟨k0, k1, rfl⟩)
                  (first | (go_at_call 10; refine (bytes_any p _ _ _ _ _ hdd).mono ?_; rintro e w9 ⟨rfl, rfl⟩) | (go_at_call 14; refine (power_any p _ _ _ _ _ hdd).mono ?_; rintro e w9 ⟨rfl, rfl⟩))
                go_wp2_with fail
                go_roundw
                case rel => exact ⟨i + 1, _, _, _, _, hlt, by go_num, HS.out, HZ.out⟩
                case measure => simp [intOf]; omega
          · rcases hd with ⟨z1, z1'⟩ | ⟨z1, z1', z2⟩
            all_goals
              go_wp2_with fail
              generalize hW0 : wr.alloc _ = W0 at *
              generalize hAq : wr.heap.size = aq at *
              clear hW0 hAq
              obtain ⟨⟨cut1, code⟩, hr⟩ : ∃ r, cutR off cut xn = r := ⟨_, rfl⟩
              have hz1 : bs.size ≤ 2000 + 210 * (i + 1) := by have := HBS.out; omega
              have hcu1 : cut1 ≤ 9223372036854775807 := by
                have h := hst1.cu
                have e : cut1 = (cutR off cut xn).1 := by rw [hr]
                rw [e]
                unfold cutR
                split
                · exact h
                · split
                  · exact h
                  · exact c3
              have hst1d := hst1.ob ((Below.refl W0.heap.size W0).drew)
              have hqd := hq0.drew
              have HA : Hid (Calls Tryd.prog 12 #[.pointer (some ⟨p, 0, none⟩), .int .i64 xn] W0.drew (ClPost E p v bs off (cut1, code) W0.drew)) := hidd (by
                rw [← hr]
                exact cut_all E p v bs off cut xn _ hst1d.disk _ (hE.ob hst1d.below))
              have HM : Hid (∀ W', MdAt W' q bs off cut → Calls Tryd.prog 17 #[.pointer (some ⟨q, 0, none⟩), .int .i64 xn] W' (MlPost q bs off (cut1, code) W')) := hidd (fun W' h => by
                rw [← hr]
                exact mcut_all q bs off cut xn W' h)
              have hcq : W0.drew.cell? ⟨aq, 2, none⟩ = some (.int .i64 xn) := hqd.cell rfl
              have HST := hidd hst1d
              clear hr hst1 hst1d c0 c1 c2 c3 hq0
              go_region_held3 (fun W => W.cell? ⟨aq, 2, none⟩ = some (.int .i64 xn))
                (first | exact hcq | exact hq3.cell rfl | exact hq2.cell rfl | exact hq1.cell rfl)
                (first
                  | (go_at_call 12; refine HA.out.mono ?_; rintro e w' ⟨ev, rfl, hcd, hd', hf0⟩; have hf' : Fr (tdS p v) _ w' := hf0.mono (fun i _ h => .inl h); obtain ⟨hm', hl', hn', hb'⟩ := HST.out.half (v' := v) (fun b hb => .inl hb) hf'; have hq1 := hqd.fr hf' (fun e => Nat.lt_irrefl _ (haq aq (.inl e))))
                  | (go_at_call 17; refine (HM.out _ hm').mono ?_; rintro e w' ⟨rfl, hm2, hf2⟩; have hst2 := TaSt.mk2 hd' hl' hn' HST.out.qlow hb' hm2 hf2 hcu1; have hq2 := hq1.fr hf2 (fun e => Nat.lt_irrefl _ (haq aq (.inr e))))
                  | (go_at_call 15; refine (coded3 E w.heap.size _ (hE.below hst2.below (Nat.le_refl _)) (hh.below hst2.below (Nat.le_refl _)) ev code hcd (code : Int)).mono ?_; rintro e w' ⟨rfl, hb3⟩; rw [decide_eq_true (rfl : (code : Int) = (code : Int))]; have hst3 := hst2.ob hb3; have hq3 := hq2.below hb3 hq2.lt))
              go_wp2_with fail
              generalize w' = W at *
              have hstd := hst3.ob ((Below.refl W.heap.size W).drew)
              have hdd := hstd.disk
              have k0 : W.drew.cell? ⟨q, 0, none⟩ = some (.string bs) := Blk.cell hstd.model rfl
              have k1 : W.drew.cell? ⟨q, 1, none⟩ = some (.bool off) := Blk.cell hstd.model rfl
              have hb0 : (bs.toList != bs.toList) = false := by simp
              have HS := hidd hstd
              have HZ := hidd hz1
              clear hst3 hstd hz1
              go_region_held3 (fun W' => W'.cell? ⟨q, 0, none⟩ = some (.string bs) ∧ W'.cell? ⟨q, 1, none⟩ = some (.bool off) ∧ W' = W.drew)
                (first | exact ⟨k0, k1, rfl⟩)
                (first | (go_at_call 10; refine (bytes_any p _ _ _ _ _ hdd).mono ?_; rintro e w9 ⟨rfl, rfl⟩) | (go_at_call 14; refine (power_any p _ _ _ _ _ hdd).mono ?_; rintro e w9 ⟨rfl, rfl⟩))
              go_wp2_with fail
              go_roundw
              case rel => exact ⟨i + 1, _, _, _, _, hlt, by go_num, HS.out, HZ.out⟩
              case measure => simp [intOf]; omega
        · rcases hd with ⟨z1, z1'⟩ | ⟨z1, z1', z2⟩
          all_goals
            go_wp2_with fail
            generalize hW0 : wr.alloc _ = W0 at *
            generalize hAq : wr.heap.size = aq at *
            clear hW0 hAq
            obtain ⟨⟨bs1, off1, cut1, code⟩, hr⟩ : ∃ r, apR bs off cut xs = r := ⟨_, rfl⟩
            have hz1 : bs1.size ≤ 2000 + 210 * (i + 1) := by
              have h := apR_size bs off cut xs HSZ.out
              rw [hr] at h
              have := HBS.out
              simp only at h
              omega
            have hcu1 : cut1 ≤ 9223372036854775807 := by
              have h := apR_cut bs off cut xs hst1.cu
              rw [hr] at h
              exact h
            have hst1d := hst1.ob ((Below.refl W0.heap.size W0).drew)
            have hqd := hq0.drew
            have HA : Hid (Calls Tryd.prog 8 #[.pointer (some ⟨p, 0, none⟩), .string xs] W0.drew (AlPost E p v (bs1, off1, cut1, code) W0.drew)) := hidd (by
              rw [← hr]
              exact append_all E p v bs off cut xs _ hst1d.disk (hT.low hst1d.below) hst1d.cu (by have := HBS.out; omega) _ (hE.ob hst1d.below) ⟨hst1d.low p (.inl rfl), fun g hg => hst1d.low g (.inr hg)⟩)
            have HM : Hid (∀ W', MdAt W' q bs off cut → Calls Tryd.prog 16 #[.pointer (some ⟨q, 0, none⟩), .string xs] W' (MaPost q (bs1, off1, cut1, code) W')) := hidd (fun W' h => by
              rw [← hr]
              exact mappend_all q bs off cut xs W' h hst1d.cu (by have := HBS.out; omega))
            have hcq : W0.drew.cell? ⟨aq, 1, none⟩ = some (.string xs) := hqd.cell rfl
            have HST := hidd hst1d
            clear hr hst1 hst1d c0 c1 c2 hq0
            go_region_held3 (fun W => W.cell? ⟨aq, 1, none⟩ = some (.string xs))
              (first | exact hcq | exact hq3.cell rfl | exact hq2.cell rfl | exact hq1.cell rfl)
              (first
                | (go_at_call 8; refine HA.out.mono ?_; rintro e w' ⟨ev, v', rfl, hcd, hd', hown', hf'⟩; obtain ⟨hm', hl', hn', hb'⟩ := HST.out.half hown' hf'; have hq1 := hqd.fr hf' (fun e => Nat.lt_irrefl _ (haq aq (.inl e))))
                | (go_at_call 16; refine (HM.out _ hm').mono ?_; rintro e w' ⟨rfl, hm2, hf2⟩; have hst2 := TaSt.mk2 hd' hl' hn' HST.out.qlow hb' hm2 hf2 hcu1; have hq2 := hq1.fr hf2 (fun e => Nat.lt_irrefl _ (haq aq (.inr e))))
                | (go_at_call 15; refine (coded3 E w.heap.size _ (hE.below hst2.below (Nat.le_refl _)) (hh.below hst2.below (Nat.le_refl _)) ev code hcd (code : Int)).mono ?_; rintro e w' ⟨rfl, hb3⟩; rw [decide_eq_true (rfl : (code : Int) = (code : Int))]; have hst3 := hst2.ob hb3; have hq3 := hq2.below hb3 hq2.lt))
            go_wp2_with fail
            generalize w' = W at *
            have hstd := hst3.ob ((Below.refl W.heap.size W).drew)
            have hdd := hstd.disk
            have k0 : W.drew.cell? ⟨q, 0, none⟩ = some (.string bs1) := Blk.cell hstd.model rfl
            have k1 : W.drew.cell? ⟨q, 1, none⟩ = some (.bool off1) := Blk.cell hstd.model rfl
            have hb0 : (bs1.toList != bs1.toList) = false := by simp
            have HS := hidd hstd
            have HZ := hidd hz1
            clear hst3 hstd hz1
            cases off1
            · go_region_held3 (fun W' => W'.cell? ⟨q, 0, none⟩ = some (.string bs1) ∧ W'.cell? ⟨q, 1, none⟩ = some (.bool false) ∧ W' = W.drew)
                (first | exact ⟨k0, k1, rfl⟩)
                (first | (go_at_call 10; refine (bytes_any p _ _ _ _ _ hdd).mono ?_; rintro e w9 ⟨rfl, rfl⟩) | (go_at_call 14; refine (power_any p _ _ _ _ _ hdd).mono ?_; rintro e w9 ⟨rfl, rfl⟩))
              go_wp2_with fail
              go_roundw
              case rel => exact ⟨i + 1, _, _, _, _, hlt, by go_num, HS.out, HZ.out⟩
              case measure => simp [intOf]; omega
            · go_region_held3 (fun W' => W'.cell? ⟨q, 0, none⟩ = some (.string bs1) ∧ W'.cell? ⟨q, 1, none⟩ = some (.bool true) ∧ W' = W.drew)
                (first | exact ⟨k0, k1, rfl⟩)
                (first | (go_at_call 10; refine (bytes_any p _ _ _ _ _ hdd).mono ?_; rintro e w9 ⟨rfl, rfl⟩) | (go_at_call 14; refine (power_any p _ _ _ _ _ hdd).mono ?_; rintro e w9 ⟨rfl, rfl⟩))
              go_wp2_with fail
              go_roundw
              case rel => exact ⟨i + 1, _, _, _, _, hlt, by go_num, HS.out, HZ.out⟩
              case measure => simp [intOf]; omega
      · have z1 : decide ((200 : Int) < (xs.size : Int)) = true := decide_eq_true (by omega)
        have z1' : decide (200 < xs.size) = true := decide_eq_true (by omega)
        have z2 : ((xs.size : Int) != 20001) = true := by rw [bne_iff_ne]; omega
        have hB1 := hst1.below
        go_wp2_with fail
        go_ret
        exact ⟨rfl, hB1⟩
    · obtain rfl : i = L.length := by omega
      have hm : Blk wr q [.string bs, .bool off, .int .i64 cut] 42 := hst.model
      have c0 := hm.cell (i := 0) (v := .string bs) rfl
      have hB := hst.below
      have hTr := hT.low hB
      have hbz : bs.size ≤ 4000000 := by omega
      clear hst hbs
      go_wp2_with fail
      refine (read_any bs _ hbz hTr).mono ?_
      rintro e w3 ⟨⟨l, t, u, hrd, rfl, hou⟩, hb3⟩
      have hm3 := hm.below hb3 hm.lt
      have c3 := hm3.cell (i := 0) (v := .string bs) rfl
      have hB3 := hB.trans (hb3.mono hB.size)
      obtain ⟨ua, uc, rfl⟩ := hou.shape
      obtain ⟨N, hN⟩ : ∃ N, (recs l).length = N := ⟨_, rfl⟩
      rw [hN]
      have HN := hidd hN
      have HRD := hidd hrd
      clear hrd hb3 hm c0 hTr hN hB
      go_wp2_with fail
      refine (mread_any bs _ hbz).mono ?_
      rintro e w4 ⟨⟨l2, t2, u2, hrd2, rfl, hou2⟩, hb4⟩
      obtain ⟨e2, -⟩ := Rd.uniq hrd2 HRD.out
      subst e2
      rw [HN.out]
      have hB4 := hB3.trans (hb4.mono hB3.size)
      obtain ⟨ua2, uc2, rfl⟩ := hou2.shape
      have hs1 := (hou.ob hb4).sl
      have hs2 := hou2.sl
      clear hrd2 hb4 hou hou2 hB3 c3 hm3
      go_wp2_with fail
      refine (sameTexts_any _ _ l2 l2 _ hs1 hs2).mono ?_
      rintro e w5 ⟨rfl, hb5⟩
      rw [decide_eq_true (rfl : l2 = l2)]
      go_wp2_with fail
      go_ret
      exact ⟨rfl, hB4.trans (hb5.mono hB4.size)⟩
end Go.Proofs.YtpijgncmahbjhaaDoor
