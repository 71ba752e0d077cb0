/- stillroomlaw1.PackTells, walked. Condition: the tree is there, the variables and the library's tables read as listed. -/
import Derived.Test.YtoaedkinlnkkhaaGreatDoorPkS
import Derived.Test.YtoaedkinlnkkhaaGreatDoorPk8
import Derived.Test.YtoaedkinlnkkhaaGreatDoorTrD
namespace Go.Proofs.YtoaedkinlnkkhaaGreatDoor
open Go.RowKit
theorem large_num5 (t : Lt) (most : Nat) (hm : most ≤ 300) : ∃ r : Int, (0 ≤ r ∧ r ≤ 1) ∧ (r = 0 ↔ SmallL most t) ∧ Hid (∀ W, t.Ok W → Calls Tryz.prog 6 #[nval t, .int .i64 (most : Int)] W fun e w' => e = .returned (.int .i64 r) ∧ Below W.heap.size W w') := by
  by_cases h : SmallL most t
  · exact ⟨0, by omega, ⟨fun _ => h, fun _ => rfl⟩, hidd (fun W ht => (large_fn t most W ht hm).mono fun _ _ ⟨k, hb⟩ => ⟨k.elim (fun k => k.1) (fun k => absurd h k.2), hb⟩)⟩
  · exact ⟨1, by omega, ⟨fun e => by omega, fun h' => absurd h' h⟩, hidd (fun W ht => (large_fn t most W ht hm).mono fun _ _ ⟨k, hb⟩ => ⟨k.elim (fun k => absurd k.2 h) (fun k => k.1), hb⟩)⟩
mutual
/-- A tree's rows lie in no block of four cells. -/
theorem ok_apart {W : World} {p : Nat} {c0 c1 c2 c3 : Value} {T : TypeId} (hb : Blk W p [c0, c1, c2, c3] T) : ∀ t : Lt, t.Ok W → t.In (fun b => ¬ b = p)
  | .mk k d e v ks, h => by
    rw [Tr.Ok] at h
    rw [Tr.In]
    refine ⟨fun hn b hv hp => ?_, oks_apart hb ks h.2.2⟩
    obtain ⟨a, cap, rfl, _, _, _, h3⟩ := h.1
    have hl := kcells_len ks
    have hk : 0 < ks.length := by cases ks with | nil => exact absurd rfl hn | cons x r => simp
    rcases h3 with h3 | ⟨b', off, rfl, _, h4⟩
    · omega
    · simp only [Value.ownBlock, Option.some.injEq] at hv
      subst hv
      subst hp
      have := h4 4 (by omega)
      unfold Blk at hb
      simp [World.cell?, hb] at this
theorem oks_apart {W : World} {p : Nat} {c0 c1 c2 c3 : Value} {T : TypeId} (hb : Blk W p [c0, c1, c2, c3] T) : ∀ ks : List (ByteArray × Lt), Oks W ks → InS (fun b => ¬ b = p) ks
  | [], _ => by rw [InS]; trivial
  | (n, t) :: r, h => by rw [Oks] at h; rw [InS]; exact ⟨ok_apart hb t h.1, oks_apart hb r h.2⟩
end
/-- A tree, behind a store of a whole node. -/
theorem ok_set4 {W : World} {p : Nat} {c0 c1 c2 c3 : Value} {T : TypeId} (hb : Blk W p [c0, c1, c2, c3] T) {t : Lt} (h : t.Ok W) (x0 x1 x2 x3 : Value) : t.Ok ((((W.setCell ⟨p, 0, none⟩ x0).setCell ⟨p, 1, none⟩ x1).setCell ⟨p, 2, none⟩ x2).setCell ⟨p, 3, none⟩ x3) :=
  ok_fr ((Fr.refl (fun b => b = p) W).set4 (.inl rfl) x0 x1 x2 x3) t h (ok_apart hb t h)
theorem below_set4 {w W : World} {p : Nat} (h : Below w.heap.size w W) (hp : w.heap.size ≤ p) (x0 x1 x2 x3 : Value) : Below w.heap.size w ((((W.setCell ⟨p, 0, none⟩ x0).setCell ⟨p, 1, none⟩ x1).setCell ⟨p, 2, none⟩ x2).setCell ⟨p, 3, none⟩ x3) :=
  (((h.setCell (p := ⟨p, 0, none⟩) hp x0).setCell (p := ⟨p, 1, none⟩) hp x1).setCell (p := ⟨p, 2, none⟩) hp x2).setCell (p := ⟨p, 3, none⟩) hp x3
theorem coded_evc5 {E : Nat → Addr} {c : Nat} (h : c ≤ 13) : Coded E (evc E c) c := by
  by_cases h0 : c = 0
  · subst h0; exact .inl ⟨rfl, rfl⟩
  · exact .inr ⟨c - 1, by omega, by omega, if_neg h0⟩
/-- No node. -/
def ZN : Nd := .mk ⟨#[]⟩ ⟨#[]⟩ false () []
def xOf : Except Nat Nd → Nd
  | .error _ => ZN
  | .ok x => x
def cOf {α : Type} : Except Nat α → Nat
  | .error n => n
  | .ok _ => 0
def yOf : Except Nat (Nd × List UInt8) → Nd
  | .error _ => ZN
  | .ok x => x.1
def rOf : Except Nat (Nd × List UInt8) → ByteArray
  | .error _ => ⟨#[]⟩
  | .ok x => bstr x.2
theorem readP_bd (s : ByteArray) : cOf (readP s) ≤ 13 := by
  unfold readP
  split
  · simp [cOf]
  · cases h : nodeP 9 0 s.data.toList with
    | error e =>
      have := nodeP_err _ _ _ _ h
      simp only [cOf]
      omega
    | ok x =>
      obtain ⟨x, c, r⟩ := x
      have := scan_bd (pre ⟨#[]⟩ 0 x) 0
      simp only
      split
      · simp [cOf]
      · split
        · simp [cOf]
        · simp only [cOf]; unfold treeE; omega
theorem firstP_bd (s : ByteArray) : cOf (firstP s) ≤ 13 := by
  unfold firstP
  split
  · simp [cOf]
  · cases h : nodeP 9 0 s.data.toList with
    | error e =>
      have := nodeP_err _ _ _ _ h
      simp only [cOf]
      omega
    | ok x =>
      obtain ⟨x, c, r⟩ := x
      have := scan_bd (pre ⟨#[]⟩ 0 x) 0
      simp only
      split
      · simp [cOf]
      · simp only [cOf]; unfold treeE; omega
/-- What Read says, error or not. -/
def RdC (E : Nat → Addr) (x : Nd) (c : Nat) (w : World) (e : Ending) (w' : World) : Prop :=
  ∃ (kd da : ByteArray) (ex : Bool) (a : Option Addr) (cap : Nat) (ks : List (ByteArray × Lt)) (ev : Value), e = .returned (.tuple #[.agg #[.string kd, .string da, .bool ex, .slice a ks.length cap], ev]) ∧
    (Tr.mk kd da ex (.slice a ks.length cap) ks : Lt).bare = x ∧ (Tr.mk kd da ex (.slice a ks.length cap) ks : Lt).Ok w' ∧ Coded E ev c ∧ Below w.heap.size w w'
def RdD (x : Nd) (c : Nat) (w : World) (e : Ending) (w' : World) : Prop :=
  ∃ (kd da : ByteArray) (ex : Bool) (a : Option Addr) (cap : Nat) (ks : List (ByteArray × Lt)), e = .returned (.tuple #[.agg #[.string kd, .string da, .bool ex, .slice a ks.length cap], .int .i64 (c : Int)]) ∧
    (Tr.mk kd da ex (.slice a ks.length cap) ks : Lt).bare = x ∧ (Tr.mk kd da ex (.slice a ks.length cap) ks : Lt).Ok w' ∧ Below w.heap.size w w'
def FsC (E : Nat → Addr) (x : Nd) (r : ByteArray) (c : Nat) (w : World) (e : Ending) (w' : World) : Prop :=
  ∃ (kd da : ByteArray) (ex : Bool) (a : Option Addr) (cap : Nat) (ks : List (ByteArray × Lt)) (ev : Value), e = .returned (.tuple #[.agg #[.string kd, .string da, .bool ex, .slice a ks.length cap], .string r, ev]) ∧
    (Tr.mk kd da ex (.slice a ks.length cap) ks : Lt).bare = x ∧ (Tr.mk kd da ex (.slice a ks.length cap) ks : Lt).Ok w' ∧ Coded E ev c ∧ Below w.heap.size w w'
def FsD (x : Nd) (r : ByteArray) (c : Nat) (w : World) (e : Ending) (w' : World) : Prop :=
  ∃ (kd da : ByteArray) (ex : Bool) (a : Option Addr) (cap : Nat) (ks : List (ByteArray × Lt)), e = .returned (.tuple #[.agg #[.string kd, .string da, .bool ex, .slice a ks.length cap], .string r, .int .i64 (c : Int)]) ∧
    (Tr.mk kd da ex (.slice a ks.length cap) ks : Lt).bare = x ∧ (Tr.mk kd da ex (.slice a ks.length cap) ks : Lt).Ok w' ∧ Below w.heap.size w w'
section
variable {E : Nat → Addr} {w w' : World} {e : Ending}
theorem rdc_of {X : Except Nat Nd} (hc : cOf X ≤ 13) (h : RpPost E X w e w') : RdC E (xOf X) (cOf X) w e w' := by
  obtain ⟨h, hb⟩ := h
  cases X with
  | error n =>
    obtain ⟨g, rfl, hg⟩ := h
    exact ⟨⟨#[]⟩, ⟨#[]⟩, false, none, 0, [], _, rfl, rfl, leaf_ok w' _ _ _, by rw [hg]; exact coded_evc5 hc, hb⟩
  | ok x =>
    obtain ⟨kd, da, ex, a, cap, ks, rfl, h1, h2⟩ := h
    exact ⟨kd, da, ex, a, cap, ks, _, rfl, h1, h2, .inl ⟨rfl, rfl⟩, hb⟩
theorem rdd_of {X : Except Nat Nd} (h : RtPost X w e w') : RdD (xOf X) (cOf X) w e w' := by
  obtain ⟨h, hb⟩ := h
  cases X with
  | error n =>
    exact ⟨⟨#[]⟩, ⟨#[]⟩, false, none, 0, [], h, rfl, leaf_ok w' _ _ _, hb⟩
  | ok x =>
    obtain ⟨kd, da, ex, a, cap, ks, rfl, h1, h2⟩ := h
    exact ⟨kd, da, ex, a, cap, ks, rfl, h1, h2, hb⟩
theorem fsc_of {X : Except Nat (Nd × List UInt8)} (hc : cOf X ≤ 13) (h : FpPost E X w e w') : FsC E (yOf X) (rOf X) (cOf X) w e w' := by
  obtain ⟨h, hb⟩ := h
  cases X with
  | error n =>
    obtain ⟨g, rfl, hg⟩ := h
    exact ⟨⟨#[]⟩, ⟨#[]⟩, false, none, 0, [], _, rfl, rfl, leaf_ok w' _ _ _, by rw [hg]; exact coded_evc5 hc, hb⟩
  | ok x =>
    obtain ⟨x, r⟩ := x
    obtain ⟨kd, da, ex, a, cap, ks, rfl, h1, h2⟩ := h
    exact ⟨kd, da, ex, a, cap, ks, _, rfl, h1, h2, .inl ⟨rfl, rfl⟩, hb⟩
theorem fsd_of {X : Except Nat (Nd × List UInt8)} (h : FtPost X w e w') : FsD (yOf X) (rOf X) (cOf X) w e w' := by
  obtain ⟨h, hb⟩ := h
  cases X with
  | error n =>
    exact ⟨⟨#[]⟩, ⟨#[]⟩, false, none, 0, [], h, rfl, leaf_ok w' _ _ _, hb⟩
  | ok x =>
    obtain ⟨x, r⟩ := x
    obtain ⟨kd, da, ex, a, cap, ks, rfl, h1, h2⟩ := h
    exact ⟨kd, da, ex, a, cap, ks, rfl, h1, h2, hb⟩
end
/-- What holds between the calls. -/
structure PtK (w : World) (t : Lt) (W : World) : Prop where
  below : Below w.heap.size w W
  ba : Blk W w.heap.size (ncells t) 24
theorem PtK.later {w W W' : World} {t : Lt} (h : PtK w t W) (hb : Below W.heap.size W W') : PtK w t W' := ⟨h.below.trans (hb.mono h.below.size), h.ba.below hb h.ba.lt⟩
theorem PtK.drew {w W : World} {t : Lt} (h : PtK w t W) : PtK w t W.drew := h.later ((Below.refl _ _).drew)
theorem PtK.c {w W : World} {ka da : ByteArray} {ea : Bool} {va : Value} {ksa : List (ByteArray × Lt)} (h : PtK w (.mk ka da ea va ksa) W) :
    W.cell? ⟨w.heap.size, 0, none⟩ = some (.string ka) ∧ W.cell? ⟨w.heap.size, 1, none⟩ = some (.string da) ∧ W.cell? ⟨w.heap.size, 2, none⟩ = some (.bool ea) ∧ W.cell? ⟨w.heap.size, 3, none⟩ = some va :=
  ⟨h.ba.cell (i := 0) rfl, h.ba.cell (i := 1) rfl, h.ba.cell (i := 2) rfl, h.ba.cell (i := 3) rfl⟩

set_option maxRecDepth 100000 in
set_option maxHeartbeats 40000000 in
theorem packTells_true (E : Nat → Addr) (B : Nat) (t : Lt) (s : ByteArray) (w : World) (ht : t.Ok w) (hs : s.size ≤ 9223372036854775807) (hE : Env codeGs B w E) (hh : Hnd w) (hT : TEnv w) :
    Calls Tryz.prog 4 #[nval t, .string s] w fun e w' => e = .returned (.bool true) ∧ Below w.heap.size w w' := by
  obtain ⟨a, cap, hv⟩ := ht.shape
  obtain ⟨ka, da, ea, va, ks⟩ := t
  simp only [Tr.v, Tr.kids] at hv
  subst hv
  obtain ⟨r, ⟨hr0, hr1⟩, hrS, HLN⟩ := large_num5 (Tr.mk ka da ea (.slice a ks.length cap) ks : Lt) 230 (by omega)
  have HBL := hidd (fun W (hW : Below w.heap.size w W) => ht.ob hW)
  have hK0 : PtK w (Tr.mk ka da ea (.slice a ks.length cap) ks : Lt) (w.alloc (.cells #[.string ka, .string da, .bool ea, .slice a ks.length cap] 24)) :=
    ⟨(Below.refl _ _).alloc (Nat.le_refl _) _, Blk.new w [.string ka, .string da, .bool ea, .slice a ks.length cap] 24⟩
  have HPA := hidd (packed_true E B _ (hT.low hK0.below) (hE.tr.ob hK0.below))
  have HLN2 : Hid (∀ W, PtK w (Tr.mk ka da ea (.slice a ks.length cap) ks : Lt) W → Calls Tryz.prog 6 #[nval (Tr.mk ka da ea (.slice a ks.length cap) ks : Lt), .int .i64 230] W fun e w' => e = .returned (.int .i64 r) ∧ Below W.heap.size W w') := hidd (fun W h => HLN.out W (HBL.out W h.below))
  have HON := hidd (fun (hsm : SmallL 230 (Tr.mk ka da ea (.slice a ks.length cap) ks : Lt)) W (h : PtK w (Tr.mk ka da ea (.slice a ks.length cap) ks : Lt) W) => own_any 300 (Tr.mk ka da ea (.slice a ks.length cap) ks : Lt) W (by have := hsm.small.many; omega) (Nat.le_refl _) (HBL.out W h.below))
  obtain ⟨TX, hTX⟩ : ∃ x, textB (Tr.mk ka da ea (.slice a ks.length cap) ks : Lt) = x := ⟨_, rfl⟩
  have HTE := hidd (fun W (h : PtK w (Tr.mk ka da ea (.slice a ks.length cap) ks : Lt) W) => treeText_any (Tr.mk ka da ea (.slice a ks.length cap) ks : Lt) W (HBL.out W h.below))
  have HTT := hidd (fun W (xa : Option Addr) (xc : Nat) (ksx : List (ByteArray × Lt)) (h : PtK w (Tr.mk ka da ea (.slice a ks.length cap) ks : Lt) W) (hx : (Tr.mk ka da ea (.slice xa ksx.length xc) ksx : Lt).Ok W) (hb : (Tr.mk ka da ea (.slice xa ksx.length xc) ksx : Lt).bare = (Tr.mk ka da ea (.slice a ks.length cap) ks : Lt).bare) =>
    (text_any E B (Tr.mk ka da ea (.slice xa ksx.length xc) ksx : Lt) W hx (hE.tr.ob h.below) (hT.low h.below)).mono (R' := fun e w' => e = .returned (.string TX) ∧ Below W.heap.size W w') fun e w' ⟨h1, h2⟩ => ⟨by rw [h1, textB_bare hb, ← textB_bare rfl, hTX], h2⟩)
  rw [hTX] at HTE
  have hcr := readP_bd s
  have hcf := firstP_bd s
  have HRC := hidd (fun (hsz : s.size ≤ 4000000) W (h : Below w.heap.size w W) => (read_pk E B s W hsz (hT.low h) (hE.tr.ob h)).mono (R' := RdC E (xOf (readP s)) (cOf (readP s)) W) fun _ _ h => rdc_of hcr h)
  have HRD := hidd (fun (hsz : s.size ≤ 4000000) W (_ : Below w.heap.size w W) => (readTree_any s W hsz).mono (R' := RdD (xOf (readP s)) (cOf (readP s)) W) fun _ _ h => rdd_of h)
  have HFC := hidd (fun (hsz : s.size ≤ 4000000) W (h : Below w.heap.size w W) => (first_pk E B s W hsz (hT.low h) (hE.tr.ob h)).mono (R' := FsC E (yOf (firstP s)) (rOf (firstP s)) (cOf (firstP s)) W) fun _ _ h => fsc_of hcf h)
  have HFD := hidd (fun (hsz : s.size ≤ 4000000) W (_ : Below w.heap.size w W) => (firstOf_any s W hsz).mono (R' := FsD (yOf (firstP s)) (rOf (firstP s)) (cOf (firstP s)) W) fun _ _ h => fsd_of h)
  generalize xOf (readP s) = xr at HRC HRD
  generalize cOf (readP s) = cr at HRC HRD
  generalize yOf (firstP s) = xf at HFC HFD
  generalize rOf (firstP s) = rf at HFC HFD
  generalize cOf (firstP s) = cf at HFC HFD
  have HCD := hidd (fun W ev c (h : Below w.heap.size w W) (hc : Coded E ev c) => (coded1 E B W (hE.ob h) (hh.below h (Nat.le_refl _)) ev c hc (c : Int)).mono (R' := fun e w' => e = .returned (.bool true) ∧ Below W.heap.size W w') fun e w' ⟨h1, h2⟩ => ⟨by rw [h1, decide_eq_true rfl], h2⟩)
  have HSM := hidd (fun W (kd da : ByteArray) (ex : Bool) (a : Option Addr) (cap : Nat) (ks : List (ByteArray × Lt)) (kd' da' : ByteArray) (ex' : Bool) (a' : Option Addr) (cap' : Nat) (ks' : List (ByteArray × Lt)) (x : Nd) (h1 : (Tr.mk kd da ex (.slice a ks.length cap) ks : Lt).Ok W) (h2 : (Tr.mk kd' da' ex' (.slice a' ks'.length cap') ks' : Lt).Ok W) (e1 : (Tr.mk kd da ex (.slice a ks.length cap) ks : Lt).bare = x) (e2 : (Tr.mk kd' da' ex' (.slice a' ks'.length cap') ks' : Lt).bare = x) =>
    sameTree_any _ (Tr.mk kd da ex (.slice a ks.length cap) ks : Lt) (Tr.mk kd' da' ex' (.slice a' ks'.length cap') ks' : Lt) W true (Nat.le_refl _) h1 h2 ⟨fun _ => e1.trans e2.symm, fun _ => rfl⟩)
  simp only [nval, Tr.kind, Tr.data, Tr.exec, Tr.v] at HLN2 HON HTE HTT HSM ⊢
  clear HLN ht hE hh hT hTX hcr hcf
  have HS := hidd hrS
  clear hrS
  have HK0 := hidd hK0
  clear hK0
  go_enter Tryz.func4, Tryz.ntmps4
  go_wp2_with fail
  refine HPA.out.mono ?_
  rintro e w1 ⟨rfl, hb1⟩
  have hK1 := HK0.out.later hb1
  clear HK0 HPA hb1
  obtain ⟨c0, c1, c2, c3⟩ := hK1.c
  go_wp2_with fail
  refine (HLN2.out _ hK1).mono ?_
  rintro e w2 ⟨rfl, hb2⟩
  have hK2 := hK1.later hb2
  clear c0 c1 c2 c3 hK1 hb2 HLN2
  by_cases hr : r = 0
  · have hsm := HS.out.1 hr
    subst hr
    have HON' := hidd (HON.out hsm)
    clear HON hsm HS hr0 hr1
    by_cases hz : s.size ≤ 3000 ∨ s.size = 20001
    · have hsz : s.size ≤ 4000000 := by omega
      have HRC' := hidd (HRC.out hsz)
      have HRD' := hidd (HRD.out hsz)
      have HFC' := hidd (HFC.out hsz)
      have HFD' := hidd (HFD.out hsz)
      clear HRC HRD HFC HFD hsz
      obtain ⟨z1, z2, z3, z4⟩ : ∃ q : Bool, decide ((3000 : Int) < (s.size : Int)) = q ∧ decide (3000 < s.size) = q ∧ (q = true → s.size = 20001) := ⟨decide (3000 < s.size), by rw [decide_eq_decide]; omega, rfl, fun h => by have := of_decide_eq_true h; omega⟩
      have hn : z1 = true → ((s.size : Int) != 20001) = false := fun h => by rw [z4 h]; rfl
      have hn2 : z1 = true → (s.size != 20001) = false := fun h => by rw [z4 h]; rfl
      have hn3 : z1 = true → ((s.size : Int) == 20001) = true := fun h => by rw [z4 h]; rfl
      have hn4 : z1 = true → (s.size == 20001) = true := fun h => by rw [z4 h]; rfl
      clear hz z4
      cases z1
      all_goals
        first
          | (have hn := hn rfl; have hn2 := hn2 rfl; have hn3 := hn3 rfl; have hn4 := hn4 rfl)
          | clear hn hn2 hn3 hn4
        obtain ⟨c0, c1, c2, c3⟩ := hK2.c
        go_upto_region 4 with fail
        have hK2d := hK2.drew
        have hte : (TX.toList == TX.toList) = true := beq_self_eq_true _
        first
          | (go_region_held3 (fun W' => W'.cell? ⟨w.heap.size, 0, none⟩ = some (.string ka) ∧ W'.cell? ⟨w.heap.size, 1, none⟩ = some (.string da) ∧ W'.cell? ⟨w.heap.size, 2, none⟩ = some (.bool ea) ∧ W'.cell? ⟨w.heap.size, 3, none⟩ = some (.slice a ks.length cap))
              (first | exact PtK.c (by assumption))
              (first
                | (go_at_call 9; (with_reducible refine (HON'.out _ (by assumption)).mono ?_); rintro e w4 ⟨xa, xc, ksx, rfl, hbx, hox, -, hb4⟩; (simp only [Tr.kind, Tr.data, Tr.exec] at hbx hox ⊢); have hq4 := PtK.later (by assumption) hb4)
                | (go_at_call 19; (with_reducible refine (HTT.out _ xa xc ksx (by assumption) hox hbx).mono ?_); rintro e w5 ⟨rfl, hb5⟩; have hq5 := PtK.later (by assumption) hb5)
                | (go_at_call 20; (with_reducible refine (HTE.out _ (by assumption)).mono ?_); rintro e w6 ⟨rfl, hb6⟩; have hq6 := PtK.later (by assumption) hb6)))
          | fail
        have hB6 := hq6.below
        clear hq6 hq5 hq4 hK2d hK2 c0 c1 c2 c3 hbx hox hb4 hb5 hb6 HON' HTT HTE HBL
        go_wp2_with fail
        refine (HRC'.out _ hB6).mono ?_
        rintro e w7 ⟨k1, d1, x1, a1, p1, l1, ev1, rfl, hbr1, hok1, hcd1, hb7⟩
        have hB7 := hB6.trans (hb7.mono hB6.size)
        have hp7 := hB7.size
        have hB8 := hB7.alloc hB7.size (.cells #[.string k1, .string d1, .bool x1, .slice a1 l1.length p1] 24)
        have hbk6 := Blk.new w7 [.string k1, .string d1, .bool x1, .slice a1 l1.length p1] 24
        have hok8 := hok1.alloc (.cells #[.string k1, .string d1, .bool x1, .slice a1 l1.length p1] 24)
        clear hb7 hB6 hok1 HRC'
        go_wp2_with fail
        refine (HRD'.out _ hB8).mono ?_
        rintro e w9 ⟨k2, d2, x2, a2, p2, l2, rfl, hbr2, hok2, hb9⟩
        have hB9 := hB8.trans (hb9.mono hB8.size)
        have hlt6 := (hbk6.below hb9 hbk6.lt).lt
        have hB10 := hB9.alloc hB9.size (.cells #[.string k2, .string d2, .bool x2, .slice a2 l2.length p2] 24)
        have hbk6 := (hbk6.below hb9 hbk6.lt).alloc (.cells #[.string k2, .string d2, .bool x2, .slice a2 l2.length p2] 24)
        have hbk8 := Blk.new w9 [.string k2, .string d2, .bool x2, .slice a2 l2.length p2] 24
        have hok8 := (hok8.ob hb9).alloc (.cells #[.string k2, .string d2, .bool x2, .slice a2 l2.length p2] 24)
        have hok10 := hok2.alloc (.cells #[.string k2, .string d2, .bool x2, .slice a2 l2.length p2] 24)
        clear hb9 hB7 hB8 hB9 hok2 HRD'
        go_wp2_with fail
        refine (HCD.out _ _ _ hB10 hcd1).mono ?_
        rintro e w11 ⟨rfl, hb11⟩
        have hB11 := hB10.trans (hb11.mono hB10.size)
        have hbk6 := hbk6.below hb11 hbk6.lt
        have hbk8 := hbk8.below hb11 hbk8.lt
        have hok8 := hok8.ob hb11
        have hok10 := hok10.ob hb11
        have u0 := hbk6.cell (i := 0) rfl
        have u1 := hbk6.cell (i := 1) rfl
        have u2 := hbk6.cell (i := 2) rfl
        have u3 := hbk6.cell (i := 3) rfl
        have v0 := hbk8.cell (i := 0) rfl
        have v1 := hbk8.cell (i := 1) rfl
        have v2 := hbk8.cell (i := 2) rfl
        have v3 := hbk8.cell (i := 3) rfl
        clear hb11 hB10 hcd1
        go_wp2_with fail
        refine (HSM.out _ _ _ _ _ _ _ _ _ _ _ _ _ xr hok8 hok10 hbr1 hbr2).mono ?_
        rintro e w12 ⟨rfl, hb12⟩
        have hB12 := hB11.trans (hb12.mono hB11.size)
        have hbk6 := hbk6.below hb12 hbk6.lt
        have hbk8 := hbk8.below hb12 hbk8.lt
        clear hb12 hB11 hok8 hok10 hbr1 hbr2 u0 u1 u2 u3 v0 v1 v2 v3
        go_wp2_with fail
        refine (HFC'.out _ hB12).mono ?_
        rintro e w13 ⟨k3, d3, x3, a3, p3, l3, ev3, rfl, hbr3, hok3, hcd3, hb13⟩
        have hB13 := hB12.trans (hb13.mono hB12.size)
        have hbk6 := hbk6.below hb13 hbk6.lt
        have hbk8 := hbk8.below hb13 hbk8.lt
        have s6 := hbk6.set4 (x0 := .string k3) (x1 := .string d3) (x2 := .bool x3) (x3 := .slice a3 l3.length p3)
        have s8 := hbk8.fr ((Fr.refl (fun b => b = w7.heap.size) w13).set4 (p := w7.heap.size) (.inl rfl) (.string k3) (.string d3) (.bool x3) (.slice a3 l3.length p3)) (fun e => by omega)
        have o3 := ok_set4 hbk6 hok3 (.string k3) (.string d3) (.bool x3) (.slice a3 l3.length p3)
        have hB14 := below_set4 hB13 hp7 (.string k3) (.string d3) (.bool x3) (.slice a3 l3.length p3)
        have u0 := hbk6.cell (i := 0) rfl
        have u1 := hbk6.cell (i := 1) rfl
        have u2 := hbk6.cell (i := 2) rfl
        have u3 := hbk6.cell (i := 3) rfl
        have g0 := hbk6.frozen 0
        have g1 := hbk6.frozen 1
        have g2 := hbk6.frozen 2
        have g3 := hbk6.frozen 3
        clear hb13 hB12 hB13 hok3 hbk6 hbk8 HFC'
        go_upto_region 11 with fail
        generalize ((((w13.setCell ⟨w7.heap.size, 0, none⟩ (.string k3)).setCell ⟨w7.heap.size, 1, none⟩ (.string d3)).setCell ⟨w7.heap.size, 2, none⟩ (.bool x3)).setCell ⟨w7.heap.size, 3, none⟩ (.slice a3 l3.length p3)) = w14 at *
        clear u0 u1 u2 u3 g0 g1 g2 g3
        go_wp2_with fail
        refine (HFD'.out _ hB14).mono ?_
        rintro e w15 ⟨k4, d4, x4, a4, p4, l4, rfl, hbr4, hok4, hb15⟩
        have hB15 := hB14.trans (hb15.mono hB14.size)
        have hbk6 := s6.below hb15 s6.lt
        have hbk8 := s8.below hb15 s8.lt
        have o3 := o3.ob hb15
        have s8 := hbk8.set4 (x0 := .string k4) (x1 := .string d4) (x2 := .bool x4) (x3 := .slice a4 l4.length p4)
        have s6 := hbk6.fr ((Fr.refl (fun b => b = w9.heap.size) w15).set4 (p := w9.heap.size) (.inl rfl) (.string k4) (.string d4) (.bool x4) (.slice a4 l4.length p4)) (fun e => by omega)
        have o3 := ok_set4 hbk8 o3 (.string k4) (.string d4) (.bool x4) (.slice a4 l4.length p4)
        have o4 := ok_set4 hbk8 hok4 (.string k4) (.string d4) (.bool x4) (.slice a4 l4.length p4)
        have hB16 := below_set4 hB15 (p := w9.heap.size) (by omega) (.string k4) (.string d4) (.bool x4) (.slice a4 l4.length p4)
        have v0 := hbk8.cell (i := 0) rfl
        have v1 := hbk8.cell (i := 1) rfl
        have v2 := hbk8.cell (i := 2) rfl
        have v3 := hbk8.cell (i := 3) rfl
        have g0 := hbk8.frozen 0
        have g1 := hbk8.frozen 1
        have g2 := hbk8.frozen 2
        have g3 := hbk8.frozen 3
        clear hb15 hB14 hB15 hok4 hbk6 hbk8 HFD'
        go_upto_region 12 with fail
        generalize ((((w15.setCell ⟨w9.heap.size, 0, none⟩ (.string k4)).setCell ⟨w9.heap.size, 1, none⟩ (.string d4)).setCell ⟨w9.heap.size, 2, none⟩ (.bool x4)).setCell ⟨w9.heap.size, 3, none⟩ (.slice a4 l4.length p4)) = w16 at *
        clear v0 v1 v2 v3 g0 g1 g2 g3
        have hrr : (rf.toList == rf.toList) = true := beq_self_eq_true _
        go_wp2_with fail
        refine (HCD.out _ _ _ hB16 hcd3).mono ?_
        rintro e w17 ⟨rfl, hb17⟩
        have hB17 := hB16.trans (hb17.mono hB16.size)
        have hbk6 := s6.below hb17 s6.lt
        have hbk8 := s8.below hb17 s8.lt
        have o3 := o3.ob hb17
        have o4 := o4.ob hb17
        have u0 := hbk6.cell (i := 0) rfl
        have u1 := hbk6.cell (i := 1) rfl
        have u2 := hbk6.cell (i := 2) rfl
        have u3 := hbk6.cell (i := 3) rfl
        have v0 := hbk8.cell (i := 0) rfl
        have v1 := hbk8.cell (i := 1) rfl
        have v2 := hbk8.cell (i := 2) rfl
        have v3 := hbk8.cell (i := 3) rfl
        clear hb17 hB16 s6 s8
        go_wp2_with fail
        refine (HSM.out _ _ _ _ _ _ _ _ _ _ _ _ _ xf o3 o4 hbr3 hbr4).mono ?_
        rintro e w18 ⟨rfl, hb18⟩
        go_wp2_with fail
        go_ret
        exact ⟨rfl, hB17.trans (hb18.mono hB17.size)⟩
    · have z1 : decide ((3000 : Int) < (s.size : Int)) = true := decide_eq_true (by omega)
      have z2 : decide (3000 < s.size) = true := decide_eq_true (by omega)
      have n1 : ((s.size : Int) != 20001) = true := by simp; omega
      have n2 : (s.size != 20001) = true := by simp; omega
      have n3 : ((s.size : Int) == 20001) = false := by simp; omega
      have n4 : (s.size == 20001) = false := by simp; omega
      have hB2 := hK2.below
      clear hz HRC HRD HFC HFD HTT HTE HCD HSM HBL hK2
      go_wp2_with fail
      go_ret
      exact ⟨rfl, hB2⟩
  · obtain rfl : r = 1 := by omega
    have hB2 := hK2.below
    clear hr hr0 hr1 HRC HRD HFC HFD HTT HTE HCD HSM HBL HON HS hK2
    go_wp2_with fail
    go_ret
    exact ⟨rfl, hB2⟩
end Go.Proofs.YtoaedkinlnkkhaaGreatDoor
