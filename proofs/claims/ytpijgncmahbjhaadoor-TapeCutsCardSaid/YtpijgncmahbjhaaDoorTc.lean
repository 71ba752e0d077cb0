/- stillroomlaw3.TapeCuts, walked. Condition: the arguments are there, the listed variables read as listed. -/
import Derived.Test.YtpijgncmahbjhaaDoorTj
namespace Go.Proofs.YtpijgncmahbjhaaDoor
open Go.RowKit

theorem ow_apart {F : Nat → Prop} {w : World} {dv : Value} {n : Nat} {xs : List Value} {p : Nat} {v : Value} {bs : ByteArray} {off : Bool} {cut : Int} (ho : Ow F w 9 1 dv n xs) (hd : TdAt w p v bs off cut) : ∀ k, dv.ownBlock = some k → ¬ tdS p v k := by
  intro k hk
  rcases ho.2 with ⟨rfl, -⟩ | ⟨g, o, cap, cur, rfl, -, hg, -⟩
  · simp [Value.ownBlock] at hk
  · simp [Value.ownBlock] at hk
    subst hk
    rintro (rfl | hv)
    · have := hd.head
      unfold Blk at this
      rw [hg] at this
      injection this with h
      injection h with _ h
      exact absurd h (by decide)
    · rcases hd.row.2 with ⟨rfl, -⟩ | ⟨g', o', cap', cur', z, rfl, -, ⟨hg', -⟩, -⟩
      · simp [Value.ownBlock] at hv
      · simp [Value.ownBlock] at hv
        subst hv
        rw [hg] at hg'
        injection hg' with h
        injection h with _ h
        exact absurd h (by decide)
theorem TdAt.grown {w w' : World} {row : Option Nat} {p : Nat} {v : Value} {bs : ByteArray} {off : Bool} {cut : Int} (h : TdAt w p v bs off cut) (hg : w.grownBy w' row) (hn : ∀ k, row = some k → ¬ tdS p v k) : TdAt w' p v bs off cut :=
  h.fr (S := fun k => row = some k) ((Fr.refl _ w).grown hg (fun _ hk => .inl hk)) (fun b hb e => hn b e hb)

/-- Where the loop stands: what was appended, and what is torn behind it. -/
structure TcSt (w wr : World) (p : Nat) (v : Value) (dv : Value) (D : List ByteArray) (t : List UInt8) (bs : ByteArray) (off : Bool) (c : Int) : Prop where
  disk : TdAt wr p v bs off c
  done : Ow (fun g => w.heap.size ≤ g) wr 9 1 dv D.length (tcells D)
  low : ∀ g, tdS p v g → w.heap.size ≤ g
  below : Below w.heap.size w wr
  small : ∀ s ∈ D, s.size ≤ 200
  bytes : bs.data.toList = recs D ++ t
  none : oneL t = none
  len : t.length ≤ 210
  on : off = false → t = [] ∧ 0 ≤ c ∧ c ≤ 9223372036854775807
theorem TcSt.ob {w wr wr' : World} {p : Nat} {v dv : Value} {D : List ByteArray} {t : List UInt8} {bs : ByteArray} {off : Bool} {c : Int} (h : TcSt w wr p v dv D t bs off c) (hb : Below wr.heap.size wr wr') : TcSt w wr' p v dv D t bs off c :=
  ⟨h.disk.ob hb (Nat.le_refl _), h.done.ob hb, h.low, h.below.trans (hb.mono h.below.size), h.small, h.bytes, h.none, h.len, h.on⟩
theorem TcSt.size {w wr : World} {p : Nat} {v dv : Value} {D : List ByteArray} {t : List UInt8} {bs : ByteArray} {off : Bool} {c : Int} (h : TcSt w wr p v dv D t bs off c) (hD : D.length ≤ 30) : bs.size ≤ 6510 := by
  rw [← size_toList, h.bytes, List.length_append]
  have h1 := recs_le h.small (by omega)
  have h2 := Nat.mul_le_mul_right (200 + 10) hD
  have h3 := h.len
  omega
theorem TcSt.rd {w wr : World} {p : Nat} {v dv : Value} {D : List ByteArray} {t : List UInt8} {bs : ByteArray} {off : Bool} {c : Int} (h : TcSt w wr p v dv D t bs off c) : Rd bs.data.toList D t :=
  ⟨h.bytes, fun s hs => by have := h.small s hs; omega, h.none⟩

/-- a record goes on whole. -/
theorem TcSt.room {w wr wr' : World} {p : Nat} {v v' dv : Value} {D : List ByteArray} {t : List UInt8} {bs : ByteArray} {off : Bool} {c : Int} (h : TcSt w wr p v dv D t bs off c)
    (h2 : ∀ b, v'.ownBlock = some b → v.ownBlock = some b ∨ wr.heap.size ≤ b) (h3 : Fr (tdS p v) wr wr') :
    Ow (fun g => w.heap.size ≤ g) wr' 9 1 dv D.length (tcells D) ∧ (∀ g, tdS p v' g → w.heap.size ≤ g) ∧ Below w.heap.size w wr' :=
  ⟨h.done.fr h3 (ow_apart h.done h.disk), fun g hg => by
    rcases hg with rfl | hg
    · exact h.low g (.inl rfl)
    · rcases h2 g hg with h' | h'
      · exact h.low g (.inr h')
      · exact Nat.le_trans h.below.size h', h.below.trans (h3.below h.below.size h.low)⟩

theorem TcSt.torn {w wr wr' : World} {p : Nat} {v v' dv : Value} {D : List ByteArray} {t : List UInt8} {bs s : ByteArray} {c : Nat} (h : TcSt w wr p v dv D t bs false (c : Int)) (hs : s.size ≤ 200) (h1 : TdAt wr' p v' (bs ++ (recB s).extract 0 c) true (c : Int))
    (h2 : ∀ b, v'.ownBlock = some b → v.ownBlock = some b ∨ wr.heap.size ≤ b) (h3 : Fr (tdS p v) wr wr') (hc : c < (recB s).size) :
    TcSt w wr' p v' dv D ((rec10 s.data.toList).take c) (bs ++ (recB s).extract 0 c) true (c : Int) := by
  obtain ⟨rfl, -, -⟩ := h.on rfl
  have hl := recB_le s (by omega)
  refine ⟨h1, h.done.fr h3 (ow_apart h.done h.disk), fun g hg => ?_, h.below.trans (h3.below h.below.size h.low), h.small, ?_, ?_, by rw [List.length_take, ← recB_size]; omega, fun e => by cases e⟩
  · rcases hg with rfl | hg
    · exact h.low g (.inl rfl)
    · rcases h2 g hg with h' | h'
      · exact h.low g (.inr h')
      · exact Nat.le_trans h.below.size h'
  · simp only [ByteArray.data_append, Array.toList_append, h.bytes, List.append_nil]
    rw [Lib.extract_from_zero, recB_list]
  · refine oneL_torn s.data.toList _ ((rec10 s.data.toList).drop c) (by rw [size_toList]; omega) (List.take_append_drop _ _).symm ?_
    intro e
    have := congrArg List.length e
    rw [List.length_drop, ← recB_size] at this
    simp at this
    omega

set_option maxRecDepth 100000 in
set_option maxHeartbeats 4000000 in
theorem tc_early (v : Value) (L : List ByteArray) (cut : Int) (w : World) (hL : Sl w v (tcells L) L.length 1) (hT : TEnv w) (h : 30 < L.length ∨ cut < 0) :
    Calls Tryd.prog 4 #[v, .int .i64 cut] w fun e w' => e = .returned (.bool true) ∧ Below w.heap.size w w' := by
  obtain ⟨a, cap, rfl, -⟩ := id hL
  by_cases h1 : 30 < L.length
  · have d1 : decide ((30 : Int) < (L.length : Int)) = true := by simp; omega
    have d1' : decide (30 < L.length) = true := by simp; omega
    clear h hL
    go_enter Tryd.func4, Tryd.ntmps4
    go_wp2_with fail
    refine (taped_true w hT).mono ?_
    rintro e w1 ⟨rfl, hb1⟩
    go_wp2_with fail
    go_ret
    exact ⟨rfl, hb1⟩
  · have d1 : decide ((30 : Int) < (L.length : Int)) = false := by simp; omega
    have d1' : decide (30 < L.length) = false := by simp; omega
    have h2 : cut < 0 := by omega
    have d2 : decide (cut < 0) = true := by simpa using h2
    clear h hL
    go_enter Tryd.func4, Tryd.ntmps4
    go_wp2_with fail
    refine (taped_true w hT).mono ?_
    rintro e w1 ⟨rfl, hb1⟩
    go_wp2_with fail
    go_ret
    exact ⟨rfl, hb1⟩

set_option maxRecDepth 100000 in
set_option maxHeartbeats 40000000 in
theorem tc_good (E : Nat → Addr) (v : Value) (L : List ByteArray) (cut : Int) (w : World) (hL : Sl w v (tcells L) L.length 1) (hT : TEnv w) (G : List Nat) (hE : Env G w.heap.size w E) (hg : 3 ∈ G) (h1 : L.length ≤ 30) (h2 : 0 ≤ cut) (h3 : cut ≤ 9223372036854775807) :
    Calls Tryd.prog 4 #[v, .int .i64 cut] w fun e w' => e = .returned (.bool true) ∧ Below w.heap.size w w' := by
  obtain ⟨i0, hi, hz0, hz1, hz2⟩ := info_parts infoStr
  obtain ⟨a, cap, rfl, -⟩ := id hL
  have d1 : decide ((30 : Int) < (L.length : Int)) = false := by simp; omega
  have d1' : decide (30 < L.length) = false := by simp; omega
  have d2 : decide (cut < 0) = false := by simp; omega
  go_enter Tryd.func4, Tryd.ntmps4
  go_wp2_with fail
  refine (taped_true w hT).mono ?_
  rintro e w1 ⟨rfl, hb1⟩
  go_wp2_with fail
  refine (newdisk_ok ⟨#[]⟩ w1 (by decide)).mono ?_
  rintro e w2 ⟨p, v0, rfl, hd, hlow, hb2⟩
  have hB2 := hb1.trans (hb2.mono hb1.size)
  have hlow' : ∀ g, tdS p v0 g → w.heap.size ≤ g := fun g hg => Nat.le_trans hb1.size (hlow g hg)
  clear hb1 hb2 hlow d1 d1'
  go_wp2_with fail
  refine (cut_ok p v0 _ _ cut _ hd h2).mono ?_
  rintro e w3 ⟨rfl, hd3, hf3⟩
  have hB3 : Below w.heap.size w w3 := hB2.trans (hf3.below hB2.size (fun i hi => by have := hlow' i (.inl hi); omega))
  have hst0 : TcSt w w3 p v0 (.slice none 0 0) [] [] ⟨#[]⟩ false cut := ⟨hd3, Ow.nil _ _ _ _, hlow', hB3, by simp, rfl, oneL_nil, by simp, fun _ => ⟨rfl, h2, h3⟩⟩
  have HST := hidd hst0
  clear hd hd3 hf3 hB2 hB3 hlow' d2 hst0
  go_wp2_with fail
  go_loopw [8, 9] (fun dv t wr => ∃ (i : Nat) (v' : Value) (D : List ByteArray) (tl : List UInt8) (bs : ByteArray) (off : Bool) (c : Int), i ≤ L.length ∧ t = .int .i64 (i : Int) ∧ TcSt w wr p v' dv D tl bs off c ∧ D.length ≤ i) (fun _ t _ => L.length - (intOf t).toNat)
  case atStart => exact ⟨0, v0, [], [], _, false, cut, Nat.zero_le _, rfl, HST.out, Nat.le_refl _⟩
  case round =>
    obtain ⟨i, v', D, tl, bs, off, c, hi', rfl, hst, hDi⟩ := hrel
    clear HST
    have hTr := hT.low hst.below
    have hEr := hE.ob hst.below
    by_cases hlt : i < L.length
    · obtain ⟨sb, so, rfl, hsb, hc, hcell0⟩ := hL.at1 hlt
      rw [show (tcells L)[i] = .string L[i] by simp [tcells]] at hcell0
      have hcell := hcell0
      rw [← hst.below.cell (p := ⟨sb, so + i, none⟩) hsb] at hcell
      obtain ⟨da, dcap, rfl⟩ := hst.done.shape
      have q1 : (0 : Int) ≤ (i : Int) := by omega
      have q2 : (i : Int) < (L.length : Int) := by omega
      have hbs := hst.size (by omega)
      have HC0 := hidd hcell0
      clear hc hcell0
      generalize L[i] = s at *
      by_cases h200 : s.size ≤ 200
      · have z1 : decide ((200 : Int) < (s.size : Int)) = false := by simp; omega
        have z1' : decide (200 < s.size) = false := by simp; omega
        have hrb := recB_le s (by omega)
        have HST := hidd hst
        clear hst
        go_wp2_with fail
        cases off
        · by_cases hr : ((recB s).size : Int) ≤ c
          · obtain ⟨hc0, hcu⟩ := (HST.out.on rfl).2
            refine (append_room p v' bs c s _ HST.out.disk hTr hr hcu (by omega) (by omega)).mono ?_
            rintro e w4 ⟨rfl, v4, hd4, hown4, hf4⟩
            obtain ⟨ho4, hl4, hB4⟩ := HST.out.room hown4 hf4
            have hcell4 := HC0.out
            rw [← hB4.cell (p := ⟨sb, so + i, none⟩) hsb] at hcell4
            obtain ⟨htl, -, -⟩ := HST.out.on rfl
            have hby : (bs ++ recB s).data.toList = recs (D ++ [s]) ++ [] := by
              have := HST.out.bytes
              rw [htl, List.append_nil] at this
              simp only [ByteArray.data_append, Array.toList_append, this, recB_list, recs_app, recs_one, List.append_nil]
            have hsm : ∀ x ∈ D ++ [s], x.size ≤ 200 := fun x hx => (List.mem_append.1 hx).elim (HST.out.small x) (fun e => by simp at e; subst e; exact h200)
            have HBY := hidd hby
            have HSM := hidd hsm
            have hs1 := Src.new (P := Tryd.prog) (size := 1) (tx := 22) Tryd.underlying22 w4 w4.heap.size rfl [.string s] 9 rfl (by intro u hu; simp at hu; subst hu; rfl) 1
            have how1 := ho4.alloc (.cells #[.string s] 9)
            have hz4 := hB4.size
            have hd5 := hd4.ob ((Below.refl w4.heap.size w4).alloc (Nat.le_refl _) (.cells #[.string s] 9)) (Nat.le_refl _)
            have hx0 : 0 ≤ c - ((recB s).size : Int) := by omega
            have hx1 : c - ((recB s).size : Int) ≤ 9223372036854775807 := by omega
            have HD := hidd hd5
            generalize c - ((recB s).size : Int) = c2 at *
            clear hown4 hf4 HST hby hsm htl hcell hEr hTr hd4 hd5
            go_wp2_with (at_builtin; refine wpList_append_ow _ rfl _ _ 22 22 rfl (fun g => w.heap.size ≤ g) ?cF 9 i0 _ 1 16 Tryd.underlying22 hi hz0 hz1 hz2 rfl (by decide) _ _ _ rfl how1 _ _ _ rfl hs1 ?c3 ?c4 ?_)
            case cF => intro g hg; simp at hg; omega
            case c3 => unfold maxLen; omega
            case c4 => omega
            intro v5 w5 ho5 hg5
            have hst5 : TcSt w w5 p v4 v5 (D ++ [s]) [] (bs ++ recB s) false c2 :=
              ⟨HD.out.grown hg5 (fun k hk => ow_apart how1 HD.out k hk), by simpa [tcells] using ho5, hl4, (hB4.alloc hz4 _).grown hg5 (by simp; omega) (fun k hk => (ho4.blk k hk).1), HSM.out, HBY.out, oneL_nil, by simp, fun _ => ⟨rfl, hx0, hx1⟩⟩
            have HS5 := hidd hst5
            clear hst5 ho5 hg5 how1 hs1 ho4 hB4 HD hz4
            go_wp2_with fail
            go_roundw
            case rel => exact ⟨i + 1, v4, D ++ [s], [], _, false, c2, hlt, by go_num, HS5.out, by simp; omega⟩
            case measure => simp [intOf]; omega
          · obtain ⟨hc0, -⟩ := (HST.out.on rfl).2
            obtain ⟨cn, rfl⟩ := Int.eq_ofNat_of_zero_le hc0
            refine (append_torn E p v' bs cn s _ HST.out.disk hTr (by omega) (by omega) (by omega) _ G hEr hg ⟨HST.out.low p (.inl rfl), fun g hg => HST.out.low g (.inr hg)⟩).mono ?_
            rintro e w4 ⟨rfl, v4, hd4, hown4, hf4⟩
            have hst4 := hidd (HST.out.torn h200 hd4 hown4 hf4 (by omega))
            clear HST hd4 hown4 hf4 hEr hTr
            unfold erv
            go_wp2_with fail
            go_roundw
            case rel => exact ⟨i + 1, v4, D, _, _, true, (cn : Int), hlt, by go_num, hst4.out, by omega⟩
            case measure => simp [intOf]; omega
        · refine (append_off E p v' bs c s _ HST.out.disk hTr (by omega) (by omega) _ G hEr hg).mono ?_
          rintro e w4 ⟨rfl, hb4⟩
          have hst4 := hidd (HST.out.ob hb4)
          clear HST hb4 hEr hTr
          unfold erv
          go_wp2_with fail
          go_roundw
          case rel => exact ⟨i + 1, v', D, tl, bs, true, c, hlt, by go_num, hst4.out, by omega⟩
          case measure => simp [intOf]; omega
      · have z1 : decide ((200 : Int) < (s.size : Int)) = true := by simp; omega
        have z1' : decide (200 < s.size) = true := by simp; omega
        have hB := hst.below
        clear hst
        go_wp2_with fail
        go_ret
        exact ⟨rfl, hB⟩
    · obtain rfl : i = L.length := by omega
      have hbs := hst.size (by omega)
      have hpl := hst.low p (.inl rfl)
      obtain ⟨da, dcap, rfl⟩ := hst.done.shape
      have HST := hidd hst
      have hB := hst.below
      clear hst hTr hEr
      go_wp2_with fail
      refine (recover_any p v' bs off c w _ HST.out.disk hT hB hpl (by omega)).mono ?_
      rintro e w4 ⟨l, t, u, v4, hrd, rfl, hou, hd4, hov, hf4⟩
      obtain ⟨e1, -⟩ := Rd.uniq hrd HST.out.rd
      subst e1
      have hex : bs.extract 0 (recs l).length = recsB l := ba_ext (by rw [Lib.extract_from_zero, HST.out.bytes, List.take_left, recsB_list])
      rw [hex] at hd4
      have hB4 := ob_of_fr hB hpl hf4
      have ho4 := HST.out.done.fr hf4 (fun k hk e => ow_apart HST.out.done HST.out.disk k hk (.inl e))
      have hsm : ∀ s ∈ l, s.size ≤ 20000 := fun s hs => by have := HST.out.small s hs; omega
      have hrs : (recsB l).size ≤ 6300 := by
        rw [recsB_size]
        have h4 := recs_le HST.out.small (by omega)
        have h5 := Nat.mul_le_mul_right (200 + 10) (show l.length ≤ 30 by omega)
        omega
      have hl4 : ∀ g, tdS p v4 g → w.heap.size ≤ g := fun g hg => by
        rcases hg with rfl | hg
        · exact hpl
        · rw [hov] at hg; exact HST.out.low g (.inr hg)
      have HSM := hidd hsm
      obtain ⟨ua, uc, rfl⟩ := hou.shape
      have hus := hou.sl
      have hos := ho4.sl
      clear hrd hex hov hf4 hB HST hsm
      go_wp2_with fail
      refine (sameTexts_any _ _ l l _ hus hos).mono ?_
      rintro e w5 ⟨rfl, hb5⟩
      have zt : decide (l = l) = true := by simp
      rw [zt]
      have hB5 := hB4.trans (hb5.mono hB4.size)
      have hd5 := hd4.ob hb5 (Nat.le_refl _)
      have ho5 := ho4.ob hb5
      clear hus hos hb5 hd4 ho4 hou hB4 zt
      go_wp2_with fail
      refine (power_any _ _ _ _ _ _ hd5).mono ?_
      rintro e w6 ⟨rfl, rfl⟩
      go_wp2_with fail
      have hrb := recB_le ⟨#[111, 110, 101, 32, 109, 111, 114, 101]⟩ (by decide)
      have h8 : (⟨#[111, 110, 101, 32, 109, 111, 114, 101]⟩ : ByteArray).size = 8 := rfl
      rw [h8] at hrb
      refine (append_free p v4 _ (-1) ⟨#[111, 110, 101, 32, 109, 111, 114, 101]⟩ _ hd5 (hT.low hB5) (by omega) (by omega) (by omega)).mono ?_
      rintro e w7 ⟨rfl, v7, hd7, hown7, hf7⟩
      rw [recsB_snoc] at hd7
      have hB7 : Below w.heap.size w w7 := hB5.trans (hf7.below hB5.size hl4)
      have ho7 := ho5.fr hf7 (ow_apart ho5 hd5)
      obtain ⟨M, hM⟩ : ∃ M : ByteArray, (⟨#[111, 110, 101, 32, 109, 111, 114, 101]⟩ : ByteArray) = M := ⟨_, rfl⟩
      have hMs : M.size ≤ 20000 := by rw [← hM, h8]; omega
      have hMt : (M.toList == [111, 110, 101, 32, 109, 111, 114, 101]) = true := by rw [← hM, Lib.toList_data]; rfl
      rw [hM] at hd7 hrb
      have hsz : (recsB (l ++ [M])).size ≤ 4000000 := by
        rw [← recsB_snoc, ByteArray.size_append]; omega
      have hall : ∀ s ∈ l ++ [M], s.size ≤ 20000 := fun s hs => (List.mem_append.1 hs).elim (HSM.out s) (fun e => by simp at e; subst e; exact hMs)
      have HA := hidd hall
      clear hd5 ho5 hown7 hf7 hB5 hl4 hall hM
      go_wp2_with fail
      refine (bytes_any _ _ _ _ _ _ hd7).mono ?_
      rintro e w8 ⟨rfl, rfl⟩
      go_wp2_with fail
      refine (read_any _ _ hsz (hT.low hB7)).mono ?_
      rintro e w8 ⟨⟨l2, t2, x, hrd, rfl, hx⟩, hb8⟩
      obtain ⟨e2, -⟩ := Rd.uniq hrd (Rd.whole HA.out)
      rw [e2, ← recsB_size]
      have hd8 := hd7.ob hb8 (Nat.le_refl _)
      have hB8 := hB7.trans (hb8.mono hB7.size)
      have hll : l2.length = l.length + 1 := by rw [e2]; simp
      have hgt : l2[l.length]? = some M := by rw [e2]; simp
      rw [hll] at hx
      obtain ⟨xa, xc, rfl⟩ := hx.shape
      have hxs := hx.sl
      obtain ⟨xb, xo, rfl, -, hc, hxc⟩ := hxs.at1 (i := l.length) (by omega)
      have hcm : (tcells l2)[l.length] = .string M := by
        have := List.getElem?_eq_getElem hc
        simp only [tcells, List.getElem?_map, hgt, Option.map_some, Option.some.injEq] at this
        exact this.symm
      rw [hcm] at hxc
      have q1 : (0 : Int) ≤ (l.length : Int) := by omega
      have q2 : (l.length : Int) < ((l.length + 1 : Nat) : Int) := by omega
      have hle : l.length ≤ 30 := by omega
      clear hrd e2 hb8 hx hxs hd7 ho7 hB7 hsz hgt hll hcm hc
      go_wp2_with fail
      refine (bytes_any _ _ _ _ _ _ hd8).mono ?_
      rintro e w9 ⟨rfl, rfl⟩
      clear hd8
      go_wp2_with fail
      go_ret
      exact ⟨rfl, hB8⟩
end Go.Proofs.YtpijgncmahbjhaaDoor
