/- Dirs: alike and Share. Condition: the dirs are there. · What links save: opt.Saved. Condition: the dirs are there. -/
import Derived.Test.YtoemahhpheobkaaGreatDoorDi2
namespace Go.Proofs.YtoemahhpheobkaaGreatDoor
open Go.RowKit Go.Shelf

set_option maxRecDepth 100000 in
set_option maxHeartbeats 2000000 in
theorem stat_none {pc : Prop} (B t p r ps rs m N : Nat) (T : Nat → Option Ino) (us : List Bool) (ls : List ByteArray) (k : Int) (w : World) (h : TbAt pc w B t p r ps rs m N T us ls) (hk : K64 k) (hx : mapOf T k = none) :
    Calls Tryz.prog 19 #[.pointer (some ⟨t, 0, none⟩), .int .i64 k] w fun e w' => e = .returned (.tuple #[.agg #[.int .i64 0, .int .i64 0, .bool false, .slice none 0 0, .int .u32 0], .bool false]) ∧ Below w.heap.size w w' := by
  obtain ⟨z, hz⟩ : ∃ z, z = w.heap.size := ⟨_, rfl⟩
  have hB1 : Below z w (w.alloc (.cells #[.int .i64 0, .int .i64 0, .bool false, .slice none 0 0, .int .u32 0] 54)) := (Below.refl _ _).alloc (Nat.le_of_eq hz) _
  have h1 := h.ob (hz ▸ hB1)
  have s0 := Blk.new w [.int .i64 0, .int .i64 0, .bool false, .slice none 0 0, .int .u32 0] 54
  obtain ⟨n, hn, hm⟩ := h1.mp
  have hc2 := h1.c2
  have hl := hm.look_ok hk
  rw [hx] at hl
  simp only [ptrV, Option.map_none, Option.isSome_none] at hl
  have HB := hidd hB1
  have HZ := hidd hz
  have e0 := s0.cell (i := 0) rfl
  have f0 := s0.frozen 0
  have s1 := s0.set 0 (.int .i64 0)
  have e1 := s1.cell (i := 1) rfl
  have f1 := s1.frozen 1
  have s2 := s1.set 1 (.int .i64 0)
  have e2 := s2.cell (i := 2) rfl
  have f2 := s2.frozen 2
  have s3 := s2.set 2 (.bool false)
  have e3 := s3.cell (i := 3) rfl
  have f3 := s3.frozen 3
  have s4 := s3.set 3 (.slice none 0 0)
  have e4 := s4.cell (i := 4) rfl
  have f4 := s4.frozen 4
  have s5 := s4.set 4 (.int .u32 0)
  have r0 := s5.cell (i := 0) rfl
  have r1 := s5.cell (i := 1) rfl
  have r2 := s5.cell (i := 2) rfl
  have r3 := s5.cell (i := 3) rfl
  have r4 := s5.cell (i := 4) rfl
  clear h h1 hm hn hx s0 s1 s2 s3 s4 s5 hB1 hz
  go_enter Tryz.func19, Tryz.ntmps19
  go_wp2_with fail
  refine bodyPost_ret (v := .tuple #[.agg #[.int .i64 0, .int .i64 0, .bool false, .slice none 0 0, .int .u32 0], .bool false]) ?_ rfl ?_
  · rw [results_cell_tmp rfl]
    go_simp
  · refine ⟨rfl, ?_⟩
    rw [← HZ.out]
    exact HB.out

/-- What alike answers. -/
def alV (E : Nat → Addr) (ls : List ByteArray) (x y : Ino) : Value := match rdI ls x with
  | none => .tuple #[.bool false, .iface 249 (.pointer (some (E 3)))]
  | some a => match rdI ls y with
    | none => .tuple #[.bool false, .iface 249 (.pointer (some (E 3)))]
    | some b => .tuple #[.bool ((a.toList == b.toList) && (x.exec == y.exec)), .nilIface]

set_option maxRecDepth 100000 in
set_option maxHeartbeats 4000000 in
theorem dalike_any {pc : Prop} (E : Nat → Addr) (B : Nat) (L : Loc) (s : St) (n m : Nat) (x y : Ino) (w : World) (h : DiM pc w L s) (hE : Env diGs B w E) (hN : s.N ≤ 1000000) (hx : s.T n = some x) (hy : s.T m = some y) :
    Calls Tryz.prog 35 #[.pointer (some ⟨L.d, 0, none⟩), .int .i64 (n : Int), .int .i64 (m : Int)] w fun e w' => e = .returned (alV E s.ls x y) ∧ Below w.heap.size w w' := by
  have HC0 := hidd (fun W (hW : Below w.heap.size w W) => (h.low hW).c0)
  have HRX := hidd (fun W (hW : Below w.heap.size w W) => dread_any E B L s n x W (h.low hW) (hE.ob hW) hN hx)
  have HRY := hidd (fun W (hW : Below w.heap.size w W) => dread_any E B L s m y W (h.low hW) (hE.ob hW) hN hy)
  have HSX := hidd (fun W (hW : Below w.heap.size w W) => stat_ok L.B L.t L.p L.r L.ps L.rs L.m s.N s.T s.us s.ls n x W (h.low hW).tb (by have := h.klt hx; omega) hx)
  have HSY := hidd (fun W (hW : Below w.heap.size w W) => stat_ok L.B L.t L.p L.r L.ps L.rs L.m s.N s.T s.us s.ls m y W (h.low hW).tb (by have := h.klt hy; omega) hy)
  have c00 := HC0.out w (Below.refl _ _)
  clear h hE hx hy
  go_enter Tryz.func35, Tryz.ntmps35
  go_wp2_with fail
  refine (HRX.out w (Below.refl _ _)).mono ?_
  rintro e w1 ⟨rfl, hb1⟩
  have c01 := HC0.out w1 hb1
  have HB1 := hidd hb1
  clear c00 hb1
  cases hrx : rdI s.ls x with
  | none =>
    have HV : Hid (alV E s.ls x y = .tuple #[.bool false, .iface 249 (.pointer (some (E 3)))]) := hidd (by unfold alV; rw [hrx])
    simp only [rdV]
    unfold erv
    go_wp2_with fail
    go_ret2
    exact ⟨by rw [HV.out]; rfl, HB1.out⟩
  | some a =>
    simp only [rdV]
    go_wp2_with fail
    refine (HRY.out w1 HB1.out).mono ?_
    rintro e w2 ⟨rfl, hb2⟩
    have hB2 := HB1.out.trans (hb2.mono HB1.out.size)
    have c02 := HC0.out w2 hB2
    have HB2 := hidd hB2
    clear c01 hb2 hB2
    cases hry : rdI s.ls y with
    | none =>
      have HV : Hid (alV E s.ls x y = .tuple #[.bool false, .iface 249 (.pointer (some (E 3)))]) := hidd (by unfold alV; rw [hrx]; simp only; rw [hry])
      simp only [rdV]
      unfold erv
      go_wp2_with fail
      go_ret2
      exact ⟨by rw [HV.out]; rfl, HB2.out⟩
    | some b =>
      have HV : Hid (alV E s.ls x y = .tuple #[.bool ((a.toList == b.toList) && (x.exec == y.exec)), .nilIface]) := hidd (by unfold alV; rw [hrx]; simp only; rw [hry])
      simp only [rdV]
      go_wp2_with fail
      refine (HSX.out w2 HB2.out).mono ?_
      rintro e w3 ⟨xa, xc, rfl, -, hb3⟩
      have hB3 := HB2.out.trans (hb3.mono HB2.out.size)
      have hB4 := hB3.alloc hB3.size (.cells #[.int .i64 (x.data.size : Int), .int .i64 (x.links : Int), .bool x.exec, .slice xa x.bl.length xc, .int .u32 (crc x.data.data.toList : Nat)] 54)
      have hbx := Blk.new w3 [.int .i64 (x.data.size : Int), .int .i64 (x.links : Int), .bool x.exec, .slice xa x.bl.length xc, .int .u32 (crc x.data.data.toList : Nat)] 54
      have c04 := HC0.out _ hB4
      have HB4 := hidd hB4
      clear c02 hb3 hB3 hB4
      go_wp2_with fail
      refine (HSY.out _ HB4.out).mono ?_
      rintro e w5 ⟨ya, yc, rfl, -, hb5⟩
      have hbx5 := hbx.below hb5 hbx.lt
      have hx2 := (hbx5.alloc (.cells #[.int .i64 (y.data.size : Int), .int .i64 (y.links : Int), .bool y.exec, .slice ya y.bl.length yc, .int .u32 (crc y.data.data.toList : Nat)] 54)).cell (i := 2) rfl
      have hB5 := HB4.out.trans (hb5.mono HB4.out.size)
      have hB6 := hB5.alloc hB5.size (.cells #[.int .i64 (y.data.size : Int), .int .i64 (y.links : Int), .bool y.exec, .slice ya y.bl.length yc, .int .u32 (crc y.data.data.toList : Nat)] 54)
      have HB6 := hidd hB6
      clear hb5 hbx5 hbx c04 hB5 hB6
      cases hab : (a.toList == b.toList) with
      | false =>
        go_wp2_with fail
        go_ret2
        exact ⟨by rw [HV.out, hab]; rfl, HB6.out⟩
      | true =>
        go_wp2_with fail
        go_ret2
        exact ⟨by rw [HV.out, hab]; simp, HB6.out⟩

theorem MapF.store {w : World} {m n : Nat} {F : ByteArray → Option Nat} (h : MapF w m n F) (hn : n ≤ 1000000) (q : ByteArray) (k : Nat) (hq : q.size ≤ 9223372036854775807) :
    ∃ w', (Instr.mapUpdate 79 (.map (some m)) (.string q) (.int .i64 (k : Int))).run Tryz.prog w = .ok () w' ∧ MapF w' m (n + 1) (setF F q k) ∧ Fr (fun b => b = m) w w' := by
  obtain ⟨vals, h0, h1⟩ := h
  obtain ⟨w', hr, h2, h3⟩ := (h1.grow [.int .i64 (k : Int)]).store (e := 3) Tryz.underlying79 hn q (.int .i64 (k : Int)) (by simp) hq
  refine ⟨w', hr, ⟨vals ++ [.int .i64 (k : Int)], ⟨List.mem_append_left _ h0.1, fun v hv => by
    rcases List.mem_append.1 hv with hv | hv
    · exact h0.2 v hv
    · exact ⟨(k : Int), by simpa using hv⟩⟩, ?_⟩, h3⟩
  have e : (fun i => if i = q then some (Value.int .i64 (k : Int)) else fmF F i) = fmF (setF F q k) := by
    funext i
    unfold fmF setF
    by_cases hi : i = q
    · rw [if_pos hi, if_pos hi]; rfl
    · rw [if_neg hi, if_neg hi]
  rw [← e]
  exact h2

theorem tbS_relink {p r rs m : Nat} {T : Nat → Option Ino} {k : Nat} {x : Ino} (hx : T k = some x) (l : Nat) {b : Nat} (h : tbS p r rs m (upd T k (some { x with links := l })) b) : tbS p r rs m T b := by
  rcases h with h | h | h | h | ⟨i, y, hy, h⟩
  · exact .inl h
  · exact .inr (.inl h)
  · exact .inr (.inr (.inl h))
  · exact .inr (.inr (.inr (.inl h)))
  · by_cases e : i = k
    · subst e; rw [upd_same] at hy; cases hy; exact .inr (.inr (.inr (.inr ⟨i, x, hx, h⟩)))
    · rw [upd_other _ _ _ e] at hy; exact .inr (.inr (.inr (.inr ⟨i, y, hy, h⟩)))
theorem tbS_drop {p r rs m : Nat} {T : Nat → Option Ino} {k b : Nat} (h : tbS p r rs m (upd T k none) b) : tbS p r rs m T b := by
  rcases h with h | h | h | h | ⟨i, y, hy, h⟩
  · exact .inl h
  · exact .inr (.inl h)
  · exact .inr (.inr (.inl h))
  · exact .inr (.inr (.inr (.inl h)))
  · by_cases e : i = k
    · subst e; rw [upd_same] at hy; cases hy
    · rw [upd_other _ _ _ e] at hy; exact .inr (.inr (.inr (.inr ⟨i, y, hy, h⟩)))

/-- What Share answers, where it is an error. -/
def shE (E : Nat → Addr) (s : St) (k : Int) (q : ByteArray) (n : Int) : Option Value :=
  match inoR s.D k q with
  | .error c => some (evc E c)
  | .ok was => match (if 0 ≤ n then s.T n.toNat else none) with
    | none => some (erv E 1)
    | some xn => if (was : Int) = n then none else match s.T was with
      | none => none
      | some xw => match rdI s.ls xw with
        | none => some (erv E 3)
        | some a => match rdI s.ls xn with
          | none => some (erv E 3)
          | some b => if ((a.toList == b.toList) && (xw.exec == xn.exec)) = true then none else some (erv E 2)
/-- Dirs behind a Share. -/
def shS (s : St) (k : Nat) (e : Dt) (q : ByteArray) (n was : Nat) (xn xw : Ino) : St :=
  { s with N := s.N + 3, T := shareT s.T n was xn xw, us := if xw.links = 1 then giv s.us xw.bl else s.us, D := updD s.D k (some (e.setE q n)) }
def ShP (pc : Prop) (E : Nat → Addr) (L : Loc) (s : St) (k : Int) (q : ByteArray) (n : Int) (w : World) (e : Ending) (w' : World) : Prop :=
  (∃ v, shE E s k q n = some (.iface 249 v) ∧ e = .returned (.iface 249 v) ∧ Below w.heap.size w w') ∨
  (shE E s k q n = none ∧ e = .returned .nilIface ∧ Below w.heap.size w w' ∧ ∃ was : Nat, inoR s.D k q = .ok was ∧ (was : Int) = n) ∨
  (shE E s k q n = none ∧ e = .returned .nilIface ∧ Fr (diS L s) w w' ∧ ∃ (k' n' was : Nat) (e : Dt) (xn xw : Ino), k = (k' : Int) ∧ n = (n' : Int) ∧ s.D k' = some e ∧ e.F q = some was ∧ s.T n' = some xn ∧ s.T was = some xw ∧ was ≠ n' ∧ DiAt pc w' L (shS s k' e q n' was xn xw) ∧ (∀ b, diS L (shS s k' e q n' was xn xw) b → diS L s b))
/-- Linking, the map's store and unlinking: what they leave. -/
theorem share_end {pc : Prop} {L : Loc} {s : St} {k n was : Nat} {q : ByteArray} {e : Dt} {xn xw : Ino} {w w1 w2 w3 : World} (h : DiAt pc w L s) (he : s.D k = some e) (hw : e.F q = some was) (hn : s.T n = some xn) (hx : s.T was = some xw) (hne : was ≠ n) {a b : ByteArray} (hra : rdI s.ls xw = some a) (hrb : rdI s.ls xn = some b) (hab : a = b) (hex : xw.exec = xn.exec)
    (h1 : TbAt pc w1 L.B L.t L.p L.r L.ps L.rs L.m (s.N + 1) (upd s.T n (some { xn with links := xn.links + 1 })) s.us s.ls) (f1 : Fr (tbS L.p L.r L.rs L.m s.T) w w1)
    (h2 : MapF w2 e.fm (s.N + 2) (setF e.F q n)) (f2 : Fr (fun b => b = e.fm) w1 w2)
    (h3 : TbAt pc w3 L.B L.t L.p L.r L.ps L.rs L.m (s.N + 3) (shareT s.T n was xn xw) (if xw.links = 1 then giv s.us xw.bl else s.us) s.ls) (f3 : Fr (tbS L.p L.r L.rs L.m (upd s.T n (some { xn with links := xn.links + 1 }))) w2 w3) :
    DiAt pc w3 L (shS s k e q n was xn xw) ∧ Fr (diS L s) w w3 ∧ ∀ b, diS L (shS s k e q n was xn xw) b → diS L s b := by
  have hT1 : upd s.T n (some { xn with links := xn.links + 1 }) was = some xw := by rw [upd_other _ _ _ hne]; exact hx
  have m1 := h.toDiM.table f1 (Nat.le_succ _) h1 h.sz (fun b hb => .inl (tbS_relink hn _ hb))
  have m2 := m1.setF (k := k) (e := e) he f2 h2
  have hT3 : ∀ b, tbS L.p L.r L.rs L.m (shareT s.T n was xn xw) b → tbS L.p L.r L.rs L.m (upd s.T n (some { xn with links := xn.links + 1 })) b := fun b hb => by
    unfold shareT at hb
    by_cases hl : xw.links = 1
    · rw [if_pos hl] at hb; exact tbS_drop hb
    · rw [if_neg hl] at hb; exact tbS_relink hT1 _ hb
  have m3 := m2.table (w' := w3) f3 (Nat.le_succ _) h3 h.sz (fun b hb => .inl (hT3 b hb))
  have hwe := h.well k e he
  have hdS : ∀ b, diS L (shS s k e q n was xn xw) b → diS L s b := by
    rintro b (hb | hb | hb | ⟨i, f, hi, rfl⟩)
    · exact .inl (tbS_relink hn _ (hT3 b hb))
    · exact .inr (.inl hb)
    · exact .inr (.inr (.inl hb))
    · rcases updD_cases hi with ⟨rfl, h1⟩ | ⟨-, h1⟩
      · cases h1; exact .inr (.inr (.inr ⟨i, e, he, rfl⟩))
      · exact .inr (.inr (.inr ⟨i, f, h1, rfl⟩))
  refine ⟨{ toDiM := m3, well := fun i f hi => ?_, lnk := h.lnk.share hn hx hne (h.lt he) he hwe hw, dat := fun hpc i f hi => ?_ }, ?_, hdS⟩
  · rcases updD_cases hi with ⟨rfl, h1⟩ | ⟨-, h1⟩
    · cases h1; exact hwe.set (fm_pos hwe hw)
    · exact h.well i f h1
  · have hxa := rdI_pc h.toDiM hpc hx
    have hxb := rdI_pc h.toDiM hpc hn
    have hdd : xn.data = xw.data := by
      rw [hxa] at hra
      rw [hxb] at hrb
      rw [Option.some.inj hra, Option.some.inj hrb, hab]
    rcases updD_cases hi with ⟨rfl, h1⟩ | ⟨-, h1⟩
    · cases h1; exact (h.dat hpc i e he).set hn hx hne hw hdd hex.symm
    · exact (h.dat hpc i f h1).share hn hx hne
  · exact ((f1.trans' f2 (U := diS L s) (fun _ _ hb => .inl hb) (fun _ _ hb => .inr (.inr (.inr ⟨k, e, he, hb⟩)))).trans' f3 (fun _ _ hb => hb) (fun b _ hb => .inl (tbS_relink hn _ hb)))
theorem inoR_err {D : Nat → Option Dt} {k : Int} {q : ByteArray} {c : Nat} (h : inoR D k q = .error c) : c ≠ 0 := by
  unfold inoR at h
  split at h
  · cases h; decide
  · split at h
    · cases h; decide
    · split at h
      · cases h; decide
      · cases h
theorem inoR_ok {D : Nat → Option Dt} {k : Int} {q : ByteArray} {n : Nat} (h : inoR D k q = .ok n) : ∃ (k' : Nat) (e : Dt), k = (k' : Int) ∧ D k' = some e ∧ e.F q = some n := by
  unfold inoR at h
  split at h
  · cases h
  · rename_i e he
    split at h
    · cases h
    · split at h
      · cases h
      · rename_i m hm
        cases h
        by_cases h0 : 0 ≤ k
        · rw [if_pos h0] at he
          exact ⟨k.toNat, e, by omega, he, hm⟩
        · rw [if_neg h0] at he; cases he
theorem inoR_of {D : Nat → Option Dt} {k : Nat} {q : ByteArray} {n : Nat} {e : Dt} {l : List ByteArray} (he : D k = some e) (hl : splitOf q = some l) (hq : e.F q = some n) : inoR D (k : Int) q = .ok n := by
  unfold inoR
  rw [if_pos (by omega), show ((k : Int)).toNat = k by omega, he]
  simp only
  rw [hl]
  simp only
  rw [hq]

set_option maxRecDepth 100000 in
set_option maxHeartbeats 8000000 in
theorem dshare_any {pc : Prop} (E : Nat → Addr) (B : Nat) (L : Loc) (s : St) (k : Int) (q : ByteArray) (n : Int) (w : World) (h : DiAt pc w L s) (hE : Env diGs B w E) (hM : Ml w) (hN : s.N ≤ 900000) (hk : K64 k) (hn : K64 n) (hq : q.size < 4294967281) :
    Calls Tryz.prog 11 #[.pointer (some ⟨L.d, 0, none⟩), .int .i64 k, .string q, .int .i64 n] w (ShP pc E L s k q n w) := by
  have HL := hidd (fun W (hW : Below w.heap.size w W) => h.low hW)
  have HE := hidd (fun W (hW : Below w.heap.size w W) => hE.ob hW)
  have hI := dinode_any E B L s k q w h.toDiM hE hM hk hq
  cases hi : inoR s.D k q with
  | error c =>
    have HR : Hid (shE E s k q n = some (evc E c)) := hidd (by unfold shE; rw [hi])
    have hc0 := inoR_err hi
    rw [hi] at hI
    simp only [inoV] at hI
    rw [evc_ne hc0] at hI HR
    have HI := hidd hI
    clear h hE hM hI
    go_enter Tryz.func11, Tryz.ntmps11
    go_wp2_with fail
    refine HI.out.mono ?_
    rintro e w1 ⟨rfl, hb1⟩
    have HB1 := hidd hb1
    clear hb1
    go_wp2_with fail
    go_ret
    exact .inl ⟨_, HR.out, rfl, HB1.out⟩
  | ok was =>
    obtain ⟨k', e0, rfl, he0, hw0⟩ := inoR_ok hi
    obtain ⟨xw, hxw, hlw⟩ := h.ino he0 hw0
    rw [hi] at hI
    simp only [inoV] at hI
    have HI := hidd hI
    have HS0 : Hid (shE E s (k' : Int) q n = match (if 0 ≤ n then s.T n.toNat else none) with | none => some (erv E 1) | some xn => if (was : Int) = n then none else match s.T was with | none => none | some xw => match rdI s.ls xw with | none => some (erv E 3) | some a => match rdI s.ls xn with | none => some (erv E 3) | some b => if ((a.toList == b.toList) && (xw.exec == xn.exec)) = true then none else some (erv E 2)) := hidd (by unfold shE; rw [hi])
    have HII := hidd hi
    clear hI hE hM hi
    cases hTn : (if 0 ≤ n then s.T n.toNat else none) with
    | none =>
      have hmn : mapOf s.T n = none := by
        unfold mapOf
        by_cases h0 : 0 ≤ n
        · rw [if_pos h0] at hTn ⊢; rw [hTn]; rfl
        · rw [if_neg h0]
      have HR : Hid (shE E s (k' : Int) q n = some (.iface 249 (.pointer (some (E 1))))) := hidd (by rw [HS0.out, hTn]; rfl)
      have HST := hidd (fun W (hW : Below w.heap.size w W) => stat_none L.B L.t L.p L.r L.ps L.rs L.m s.N s.T s.us s.ls n W (HL.out W hW).tb hn hmn)
      clear h hTn hmn HS0 HII
      go_enter Tryz.func11, Tryz.ntmps11
      go_wp2_with fail
      refine HI.out.mono ?_
      rintro e w1 ⟨rfl, hb1⟩
      have c0 := (HL.out w1 hb1).c0
      have HB1 := hidd hb1
      clear hb1
      go_wp2_with fail
      refine (HST.out w1 HB1.out).mono ?_
      rintro e w2 ⟨rfl, hb2⟩
      have hB2 := HB1.out.trans (hb2.mono HB1.out.size)
      have hB3 := hB2.alloc hB2.size (.cells #[.int .i64 0, .int .i64 0, .bool false, .slice none 0 0, .int .u32 0] 54)
      have g1 := (HE.out _ hB3).cell _ di_none
      unfold erv at g1
      have HB3 := hidd hB3
      clear c0 hb2 hB2 hB3
      go_wp2_with fail
      go_ret
      exact .inl ⟨_, HR.out, rfl, HB3.out⟩
    | some xn =>
      have hnn : ∃ n' : Nat, n = (n' : Int) ∧ s.T n' = some xn := by
        by_cases h0 : 0 ≤ n
        · rw [if_pos h0] at hTn; exact ⟨n.toNat, by omega, hTn⟩
        · rw [if_neg h0] at hTn; cases hTn
      obtain ⟨n', rfl, hxn⟩ := hnn
      have HST := hidd (fun W (hW : Below w.heap.size w W) => stat_ok L.B L.t L.p L.r L.ps L.rs L.m s.N s.T s.us s.ls n' xn W (HL.out W hW).tb (by have := h.klt hxn; omega) hxn)
      have HAL := hidd (fun W (hW : Below w.heap.size w W) => dalike_any E B L s was n' xw xn W (HL.out W hW).toDiM (HE.out W hW) (by omega) hxw hxn)
      by_cases hwn : (was : Int) = (n' : Int)
      · have HR : Hid (shE E s (k' : Int) q (n' : Int) = none) := hidd (by rw [HS0.out, hTn]; simp only; rw [if_pos hwn])
        have HW := hidd hwn
        have hd : decide ((was : Int) = (n' : Int)) = true := decide_eq_true hwn
        obtain rfl : was = n' := by omega
        clear h hTn HS0 HAL hwn
        go_enter Tryz.func11, Tryz.ntmps11
        go_wp2_with fail
        refine HI.out.mono ?_
        rintro e w1 ⟨rfl, hb1⟩
        have c0 := (HL.out w1 hb1).c0
        have HB1 := hidd hb1
        clear hb1
        go_wp2_with fail
        refine (HST.out w1 HB1.out).mono ?_
        rintro e w2 ⟨xa, xc, rfl, -, hb2⟩
        have hB2 := HB1.out.trans (hb2.mono HB1.out.size)
        have hB3 := hB2.alloc hB2.size (.cells #[.int .i64 (xn.data.size : Int), .int .i64 (xn.links : Int), .bool xn.exec, .slice xa xn.bl.length xc, .int .u32 (crc xn.data.data.toList : Nat)] 54)
        have HB3 := hidd hB3
        clear c0 hb2 hB2 hB3
        go_wp2_with fail
        go_ret
        exact .inr (.inl ⟨HR.out, rfl, HB3.out, was, HII.out, rfl⟩)
      · have HS1 : Hid (shE E s (k' : Int) q (n' : Int) = match rdI s.ls xw with | none => some (erv E 3) | some a => match rdI s.ls xn with | none => some (erv E 3) | some b => if ((a.toList == b.toList) && (xw.exec == xn.exec)) = true then none else some (erv E 2)) := hidd (by
          rw [HS0.out, hTn]; simp only; rw [if_neg hwn, hxw])
        have hd : ¬ ((was : Int) = (n' : Int)) := hwn
        have hnw : was ≠ n' := fun e => hwn (by rw [e])
        have HH := hidd h
        clear h hTn HS0 hwn
        go_enter Tryz.func11, Tryz.ntmps11
        go_wp2_with fail
        refine HI.out.mono ?_
        rintro e w1 ⟨rfl, hb1⟩
        have c0 := (HL.out w1 hb1).c0
        have HB1 := hidd hb1
        clear hb1
        go_wp2_with fail
        refine (HST.out w1 HB1.out).mono ?_
        rintro e w2 ⟨xa, xc, rfl, -, hb2⟩
        have hB2 := HB1.out.trans (hb2.mono HB1.out.size)
        have hB3 := hB2.alloc hB2.size (.cells #[.int .i64 (xn.data.size : Int), .int .i64 (xn.links : Int), .bool xn.exec, .slice xa xn.bl.length xc, .int .u32 (crc xn.data.data.toList : Nat)] 54)
        have HB3 := hidd hB3
        clear c0 hb2 hB2 hB3
        go_wp2_with fail
        refine (HAL.out _ HB3.out).mono ?_
        rintro e w4 ⟨rfl, hb4⟩
        have hB4 := HB3.out.trans (hb4.mono HB3.out.size)
        have HB4 := hidd hB4
        clear hb4 hB4
        unfold alV
        cases hra : rdI s.ls xw with
        | none =>
          have HR : Hid (shE E s (k' : Int) q (n' : Int) = some (.iface 249 (.pointer (some (E 3))))) := hidd (by rw [HS1.out, hra]; rfl)
          simp only
          go_wp2_with fail
          go_ret
          exact .inl ⟨_, HR.out, rfl, HB4.out⟩
        | some a =>
          simp only
          cases hrb : rdI s.ls xn with
          | none =>
            have HR : Hid (shE E s (k' : Int) q (n' : Int) = some (.iface 249 (.pointer (some (E 3))))) := hidd (by rw [HS1.out, hra]; simp only; rw [hrb]; rfl)
            simp only
            go_wp2_with fail
            go_ret
            exact .inl ⟨_, HR.out, rfl, HB4.out⟩
          | some b =>
            simp only
            cases hab : ((a.toList == b.toList) && (xw.exec == xn.exec)) with
            | false =>
              have HR : Hid (shE E s (k' : Int) q (n' : Int) = some (.iface 249 (.pointer (some (E 2))))) := hidd (by rw [HS1.out, hra]; simp only; rw [hrb]; simp only; rw [hab]; rfl)
              have g1 := (HE.out _ HB4.out).cell _ di_shape
              unfold erv at g1
              go_wp2_with fail
              go_ret
              exact .inl ⟨_, HR.out, rfl, HB4.out⟩
            | true =>
              have HR : Hid (shE E s (k' : Int) q (n' : Int) = none) := hidd (by rw [HS1.out, hra]; simp only; rw [hrb]; simp only; rw [hab]; rfl)
              have HAB : Hid (a = b ∧ xw.exec = xn.exec) := hidd (by
                rw [Bool.and_eq_true] at hab
                refine ⟨?_, by simpa using hab.2⟩
                have h1 : a.toList = b.toList := by simpa using hab.1
                rw [Lib.toList_data, Lib.toList_data] at h1
                exact toList_inj h1)
              have h4 := HL.out _ HB4.out
              have hlk := link_ok L.B L.t L.p L.r L.ps L.rs L.m s.N s.T s.us s.ls n' xn w4 h4.tb (by omega) (by have := h4.klt hxn; omega) hxn
              have c0 := h4.c0
              have HLK := hidd hlk
              have H4 := hidd h4
              clear hlk h4 hab
              go_wp2_with fail
              refine HLK.out.mono ?_
              rintro e w5 ⟨rfl, ht5, hf5⟩
              have m1 := H4.out.toDiM.table hf5 (Nat.le_succ _) ht5 H4.out.sz (fun b hb => .inl (tbS_relink hxn _ hb))
              have c1 := m1.c1
              have hl := m1.look hk
              rw [dmF_nat, show s.D k' = some e0 from he0] at hl
              simp only [Option.map_some, Option.getD_some, entV] at hl
              obtain ⟨w6, hrun, hm6, hf6⟩ := (m1.fms k' e0 he0).store (by show s.N + 1 ≤ 1000000; omega) q n' (by omega)
              have hfd := fun a b c d v => field_ent a b c d v w5
              have m2 := m1.setF (k := k') (e := e0) he0 hf6 hm6
              have c0' := m2.c0
              have hT1 : upd s.T n' (some { xn with links := xn.links + 1 }) was = some xw := by rw [upd_other _ _ _ hnw]; exact hxw
              have HM2 := hidd m2
              have HF5 := hidd hf5
              have HF6 := hidd hf6
              have HT5 := hidd ht5
              have HM6 := hidd hm6
              have hwN := H4.out.klt hxw
              clear m1 m2 ht5 hf5 hm6 hf6 c0
              by_cases h1 : xw.links = 1
              · have hul := unlink_last L.B L.t L.p L.r L.ps L.rs L.m (s.N + 1 + 1) (upd s.T n' (some { xn with links := xn.links + 1 })) s.us s.ls was xw w6 HM2.out.tb (by omega) hT1 h1
                have HUL := hidd hul
                clear hul
                go_wp2_with fail
                refine HUL.out.mono ?_
                rintro e w7 ⟨rfl, ht7, hf7⟩
                have HP : Hid (ShP pc E L s (k' : Int) q (n' : Int) w (.returned .nilIface) w7) := hidd (by
                  have hsh : shareT s.T n' was xn xw = upd (upd s.T n' (some { xn with links := xn.links + 1 })) was none := by unfold shareT; rw [if_pos h1]
                  obtain ⟨r1, r2, r3⟩ := share_end H4.out he0 hw0 hxn hxw hnw hra hrb HAB.out.1 HAB.out.2 HT5.out HF5.out HM6.out HF6.out (by rw [hsh, if_pos h1]; exact ht7.more (Nat.le_succ _)) hf7
                  exact .inr (.inr ⟨HR.out, rfl, (Fr.ob HB4.out).trans' r2 (fun _ _ hb => hb) (fun _ _ hb => hb), k', n', was, e0, xn, xw, rfl, rfl, he0, hw0, hxn, hxw, hnw, r1, r3⟩))
                clear ht7 hf7
                go_wp2_with fail
                go_ret
                exact HP.out
              · have hul := unlink_more L.B L.t L.p L.r L.ps L.rs L.m (s.N + 1 + 1) (upd s.T n' (some { xn with links := xn.links + 1 })) s.us s.ls was xw w6 HM2.out.tb (by omega) (by omega) hT1 (xw.links - 1) (by omega) (by omega)
                have HUL := hidd hul
                clear hul
                go_wp2_with fail
                refine HUL.out.mono ?_
                rintro e w7 ⟨rfl, ht7, hf7⟩
                have HP : Hid (ShP pc E L s (k' : Int) q (n' : Int) w (.returned .nilIface) w7) := hidd (by
                  have hsh : shareT s.T n' was xn xw = upd (upd s.T n' (some { xn with links := xn.links + 1 })) was (some { xw with links := xw.links - 1 }) := by unfold shareT; rw [if_neg h1]
                  obtain ⟨r1, r2, r3⟩ := share_end H4.out he0 hw0 hxn hxw hnw hra hrb HAB.out.1 HAB.out.2 HT5.out HF5.out HM6.out HF6.out (by rw [hsh, if_neg h1]; exact ht7) hf7
                  exact .inr (.inr ⟨HR.out, rfl, (Fr.ob HB4.out).trans' r2 (fun _ _ hb => hb) (fun _ _ hb => hb), k', n', was, e0, xn, xw, rfl, rfl, he0, hw0, hxn, hxw, hnw, r1, r3⟩))
                clear ht7 hf7
                go_wp2_with fail
                go_ret
                exact HP.out
end Go.Proofs.YtoemahhpheobkaaGreatDoor

namespace Go.Proofs.YtoemahhpheobkaaGreatDoor
open Go.RowKit Go.Shelf

theorem kys_keys {T : Nat → Option Ino} {K : Nat} (h : ∀ k, K ≤ k → T k = none) : KeysOf T (kysL T K) := by
  refine ⟨?_, fun k => ?_⟩
  · exact List.Pairwise.filter _ List.pairwise_lt_range
  · unfold kysL
    rw [List.mem_filter, List.mem_range]
    constructor
    · exact fun h => h.2
    · intro hk
      refine ⟨?_, hk⟩
      rcases Nat.lt_or_ge k K with h1 | h1
      · exact h1
      · rw [h k h1] at hk; cases hk

set_option maxRecDepth 100000 in
set_option maxHeartbeats 8000000 in
theorem saved_any {pc : Prop} (L : Loc) (s : St) (K : Nat) (w : World) (h : DiM pc w L s) (hN : s.N ≤ 1000000) (hK : s.N ≤ K) :
    Calls Tryz.prog 22 #[.pointer (some ⟨L.d, 0, none⟩)] w fun e w' => e = .returned (.int .i64 ((savT s.T K : Nat) : Int)) ∧ Below w.heap.size w w' := by
  have HTB := hidd (dtable_any L s w h)
  have HAL := hidd (all_any L.B L.t L.p L.r L.ps L.rs L.m s.N s.T s.us s.ls w h.tb hN)
  have HST := hidd (fun W (hW : Below w.heap.size w W) k x (hx : s.T k = some x) => stat_ok L.B L.t L.p L.r L.ps L.rs L.m s.N s.T s.us s.ls k x W (h.low hW).tb (by have := h.klt hx; omega) hx)
  have HOK := hidd (fun k x (hx : s.T k = some x) => (⟨(h.tb.ok k x hx).pos, (h.tb.ok k x hx).big, by rw [(h.tb.ok k x hx).len]; exact needN_le _ (h.tb.ok k x hx).size⟩ : 1 ≤ x.links ∧ x.links ≤ s.N ∧ x.bl.length ≤ 125))
  have HKY : Hid (KeysOf s.T (kysL s.T K)) := hidd (kys_keys (fun k hk => by
    cases hT : s.T k with
    | none => rfl
    | some x => have := h.klt hT; omega))
  clear h
  go_enter Tryz.func22, Tryz.ntmps22
  go_wp2_with fail
  refine HTB.out.mono ?_
  rintro e w1 ⟨rfl, rfl⟩
  go_wp2_with fail
  refine HAL.out.mono ?_
  rintro e w2 ⟨kl, a, cap, hky, hkl, rfl, hsl, hb2⟩
  obtain rfl := hky.one HKY.out
  obtain ⟨kl, hkl'⟩ : ∃ l, kysL s.T K = l := ⟨_, rfl⟩
  have HSV : Hid ((kl.map fun k => savI (s.T k)).sum = savT s.T K) := hidd (by rw [← hkl']; exact savT_keys s.T K)
  rw [hkl'] at hky hkl hsl ⊢
  have HKL := hidd hky
  have HSL := hidd hsl
  have HB2 := hidd hb2
  clear hkl' hky hsl hb2 HKY HAL HTB
  obtain ⟨n, hn⟩ : ∃ n, kl.length = n := ⟨_, rfl⟩
  have HNN := hidd hn
  rw [hn] at hkl HSL ⊢
  clear hn
  go_wp2_with fail
  go_loopw [3, 6, 7, 8, 16] (fun sv _ _ _ i wr => ∃ (k : Nat) (S : Nat), k ≤ n ∧ i = .int .i64 (k : Int) ∧ sv = .int .i64 (S : Int) ∧ S = ((kl.take k).map fun k => savI (s.T k)).sum ∧ S ≤ 125000000 * k ∧ Below w2.heap.size w2 wr) (fun _ _ _ _ i _ => n - (intOf i).toNat)
  case atStart => exact ⟨0, 0, Nat.zero_le _, rfl, rfl, rfl, Nat.le_refl _, Below.refl _ _⟩
  case round =>
    obtain ⟨k, S, hk, rfl, rfl, hS, hSb, hbr⟩ := hrel
    by_cases hlt : k < n
    · have hlt' : k < kl.length := by rw [HNN.out]; exact hlt
      obtain ⟨b, off, rfl, hbw, hcl, hrd⟩ := (HSL.out.ob hbr (Nat.le_refl _)).at1 hlt
      have hcs : (ints kl)[k] = .int .i64 (kl[k] : Int) := by simp [ints]
      rw [hcs] at hrd
      have hmem : (s.T kl[k]).isSome = true := (HKL.out.2 _).1 (List.getElem_mem hlt')
      obtain ⟨x, hx⟩ := Option.isSome_iff_exists.1 hmem
      obtain ⟨o1, o2, o3⟩ := HOK.out _ x hx
      have hSn : ((kl.take (k + 1)).map fun k => savI (s.T k)).sum = S + (x.links - 1) * x.bl.length := by
        rw [List.take_succ_eq_append_getElem hlt', List.map_append, List.sum_append, ← hS]
        simp only [List.map_cons, List.map_nil, List.sum_cons, List.sum_nil, Nat.add_zero, hx, savI]
      have hB := HB2.out.trans (hbr.mono HB2.out.size)
      have HS := hidd (HST.out wr hB _ x hx)
      have hmul : (x.links - 1) * x.bl.length ≤ 125000000 := by
        have := Nat.mul_le_mul (show x.links - 1 ≤ 1000000 by omega) o3
        omega
      have p1 : (0 : Int) ≤ (k : Int) := by omega
      have p2 : (k : Int) < (n : Int) := by omega
      have HSN := hidd hSn
      generalize kl[k] = kk at *
      clear hS hSn hmem hcs hlt' hcl hB
      go_wp2_with fail
      refine HS.out.mono ?_
      rintro e w4 ⟨xa, xc, rfl, -, hb4⟩
      obtain ⟨bl, hbl⟩ : ∃ l, x.bl.length = l := ⟨_, rfl⟩
      have hx4 := Blk.new w4 [.int .i64 (x.data.size : Int), .int .i64 (x.links : Int), .bool x.exec, .slice xa bl xc, .int .u32 (crc x.data.data.toList : Nat)] 54
      have y1 := hx4.cell (i := 1) rfl
      have y3 := hx4.cell (i := 3) rfl
      have hb5 : Below w2.heap.size w2 (w4.alloc (.cells #[.int .i64 (x.data.size : Int), .int .i64 (x.links : Int), .bool x.exec, .slice xa bl xc, .int .u32 (crc x.data.data.toList : Nat)] 54)) := (hbr.trans (hb4.mono hbr.size)).alloc (hbr.trans (hb4.mono hbr.size)).size _
      have r1 : IntKind.i64.wrap ((x.links : Int) - 1) = ((x.links - 1 : Nat) : Int) := by rw [i64_in _ (by omega)]; omega
      have HB5 := hidd hb5
      have HX := hidd (⟨hx, o1⟩ : s.T kk = some x ∧ 1 ≤ x.links)
      clear hb4 hx4 hbr hb5 HS hx
      obtain ⟨l1, hl1⟩ : ∃ l, x.links - 1 = l := ⟨_, rfl⟩
      rw [hl1, hbl] at hmul
      rw [hl1] at r1
      rw [hl1, hbl] at HSN
      have r2 : IntKind.i64.wrap ((l1 : Int) * (bl : Int)) = ((l1 * bl : Nat) : Int) := by rw [← Int.natCast_mul, i64_in _ (by omega)]
      have r3 : IntKind.i64.wrap ((S : Int) + ((l1 * bl : Nat) : Int)) = ((S + l1 * bl : Nat) : Int) := by rw [← Int.natCast_add, i64_in _ (by omega)]
      clear hl1
      go_upto_region 9 with fail
      generalize w4.alloc (.cells #[.int .i64 (x.data.size : Int), .int .i64 (x.links : Int), .bool x.exec, .slice xa bl xc, .int .u32 (crc x.data.data.toList : Nat)] 54) = w5 at *
      clear hbl
      go_wp2_with fail
      go_roundw
      case rel => exact ⟨k + 1, S + l1 * bl, hlt, by go_num, by first | rfl | (simp only [r3]) | (rw [r2, r3]), HSN.out.symm, by omega, HB5.out⟩
      case measure => simp [intOf]; omega
    · have hkn : k = n := by omega
      have HF : Hid (S = savT s.T K) := hidd (by rw [hS, hkn, ← HNN.out, List.take_of_length_le (Nat.le_refl _), HSV.out])
      have HB : Hid (Below w.heap.size w wr) := hidd (HB2.out.trans (hbr.mono HB2.out.size))
      have p2 : ¬ ((k : Int) < (n : Int)) := by omega
      clear hS hSb hbr hkn
      go_wp2_with fail
      go_ret
      exact ⟨by rw [HF.out]; rfl, HB.out⟩
end Go.Proofs.YtoemahhpheobkaaGreatDoor
