/- The contract of tree.Same. Condition: the trees are there. -/
import Derived.Test.YtoemahhpheobkaaGreatDoorTrO
namespace Go.Proofs.YtoemahhpheobkaaGreatDoor
open Go.RowKit

/-- tree.Same answers right for trees of so many nodes. -/
def SameH (m : Nat) : Prop := ∀ (a b : Lt) (w : World) (r : Bool), a.sz ≤ m → a.Ok w → b.Ok w → (r = true ↔ a.bare = b.bare) →
    Calls Tryz.prog 15 #[nval a, nval b] w fun e w' => e = .returned (.bool r) ∧ Below w.heap.size w w'
def kval (x : ByteArray × Lt) : Value := .agg #[.string x.1, .string x.2.kind, .string x.2.data, .bool x.2.exec, x.2.v]

set_option maxRecDepth 100000 in
set_option maxHeartbeats 4000000 in
theorem same_cl (m : Nat) (hS : SameH m) (x y : ByteArray × Lt) (w : World) (r : Bool) (hm : x.2.sz ≤ m) (hx : x.2.Ok w) (hy : y.2.Ok w) (hr : r = true ↔ x.1 = y.1 ∧ x.2.bare = y.2.bare) :
    Calls Tryz.prog 41 #[kval x, kval y] w fun e w' => e = .returned (.bool r) ∧ Below w.heap.size w w' := by
  have hb2 : Below w.heap.size w ((w.alloc (.cells #[.string x.1, .string x.2.kind, .string x.2.data, .bool x.2.exec, x.2.v] 85)).alloc (.cells #[.string y.1, .string y.2.kind, .string y.2.data, .bool y.2.exec, y.2.v] 85)) :=
    ((Below.refl _ _).alloc (Nat.le_refl _) _).alloc (by simp) _
  have hx2 := hx.ob hb2
  have hy2 := hy.ob hb2
  unfold kval
  by_cases h1 : x.1 = y.1
  · have q1 : (x.1.toList == y.1.toList) = true := by simp [h1]
    have HC : Hid (∀ W, x.2.Ok W → y.2.Ok W → Calls Tryz.prog 15 #[nval x.2, nval y.2] W fun e w' => e = .returned (.bool r) ∧ Below W.heap.size W w') := hidd (fun W hx hy => hS x.2 y.2 W r hm hx hy (by rw [hr]; simp [h1]))
    clear hr hS h1
    go_enter Tryz.func41, Tryz.ntmps41
    go_wp2_with fail
    refine (HC.out _ hx2 hy2).mono ?_
    rintro e w' ⟨rfl, hb⟩
    cases r
    all_goals
      go_wp2_with fail
      go_ret
      exact ⟨rfl, hb2.trans (hb.mono hb2.size)⟩
  · have q1 : (x.1.toList == y.1.toList) = false := beq_str h1
    have HF : Hid (r = false) := hidd (by cases r; rfl; exact absurd (hr.1 rfl).1 h1)
    clear hr hS h1
    go_enter Tryz.func41, Tryz.ntmps41
    go_wp2_with fail
    go_ret
    exact ⟨by rw [HF.out]; rfl, hb2⟩

set_option maxRecDepth 100000 in
set_option maxHeartbeats 4000000 in
theorem same_eqf (m : Nat) (hS : SameH m) (a b : Lt) (w : World) (r : Bool) (hm : ∀ x ∈ a.kids, x.2.sz ≤ m) (ha : a.Ok w) (hb : b.Ok w) (hr : r = true ↔ (a.kids.length = b.kids.length ∧ ∀ i (h : i < a.kids.length) (h' : i < b.kids.length), a.kids[i].1 = b.kids[i].1 ∧ a.kids[i].2.bare = b.kids[i].2.bare)) :
    Calls Tryz.prog 40 #[a.v, b.v, .func (.func 41) #[] #[]] w fun e w' => e = .returned (.bool r) ∧ Below w.heap.size w w' := by
  obtain ⟨aa, ac, hav⟩ := ha.shape
  obtain ⟨ba, bc, hbv⟩ := hb.shape
  have hla := ha.le
  have hlb := hb.le
  obtain ⟨ka, da, ea, va, ksa⟩ := a
  obtain ⟨kb, db, eb, vb, ksb⟩ := b
  simp only [Tr.v, Tr.kids] at *
  subst hav hbv
  have HR := hidd hr
  have HM := hidd hm
  clear hr hm
  by_cases h4 : ksa.length = ksb.length
  · have q4 : ((ksa.length : Int) == (ksb.length : Int)) = true := by rw [h4]; simp
    have q4' : ((ksa.length : Int) != (ksb.length : Int)) = false := by rw [h4]; simp
    have HL := hidd h4
    clear h4
    go_enter Tryz.func40, Tryz.ntmps40
    go_wp2_with fail
    go_loopw [17] (fun t wr => ∃ k : Nat, k ≤ ksa.length ∧ t = .int .i64 (k : Int) ∧ (∀ i (h : i < ksa.length) (h' : i < ksb.length), i < k → ksa[i].1 = ksb[i].1 ∧ ksa[i].2.bare = ksb[i].2.bare) ∧ Below w.heap.size w wr) (fun t _ => ksa.length - (intOf t).toNat)
    case atStart => exact ⟨0, Nat.zero_le _, rfl, fun i _ _ h => by omega, Below.refl _ _⟩
    case round =>
      obtain ⟨k, hk, rfl, hsame, hbel⟩ := hrel
      by_cases hlt : k < ksa.length
      · have hltb : k < ksb.length := by have := HL.out; omega
        have hxs := HM.out _ (List.getElem_mem hlt)
        have hA := ha.ob hbel
        have hB := hb.ob hbel
        have hxk := hA.get hlt
        have hyk := hB.get hltb
        obtain ⟨b1, o1, rfl, hb1, a0, a1, a2, a3, a4⟩ := hA.at5 rfl hlt
        obtain ⟨b2, o2, rfl, hb2, c0, c1, c2, c3, c4⟩ := hB.at5 rfl hltb
        simp only [Tr.kids] at a0 a1 a2 a3 a4 c0 c1 c2 c3 c4 hxk hyk
        have p1 : (0 : Int) ≤ (k : Int) := by omega
        have p2 : (k : Int) < (ksa.length : Int) := by omega
        have p3 : (k : Int) < (ksb.length : Int) := by omega
        obtain ⟨x, hx⟩ : ∃ x, ksa[k] = x := ⟨_, rfl⟩
        obtain ⟨y, hy⟩ : ∃ y, ksb[k] = y := ⟨_, rfl⟩
        have HX : Hid (ksa[k] = x) := hidd hx
        have HY : Hid (ksb[k] = y) := hidd hy
        rw [hx] at a0 a1 a2 a3 a4 hxk hxs
        rw [hy] at c0 c1 c2 c3 c4 hyk
        have HS := hidd hsame
        obtain ⟨xa, xc, hxv⟩ := hxk.shape
        obtain ⟨ya, yc, hyv⟩ := hyk.shape
        obtain ⟨nx, ⟨kx, dx, ex, vx, ksx⟩⟩ := x
        obtain ⟨ny, ⟨ky, dy, ey, vy, ksy⟩⟩ := y
        simp only [Tr.kind, Tr.data, Tr.exec, Tr.v, Tr.kids] at a0 a1 a2 a3 a4 c0 c1 c2 c3 c4 hxv hyv
        subst hxv hyv
        have hb3 : Below wr.heap.size wr ((wr.alloc (.cells #[.string nx, .string kx, .string dx, .bool ex, .slice xa ksx.length xc] 85)).alloc (.cells #[.string ny, .string ky, .string dy, .bool ey, .slice ya ksy.length yc] 85)) :=
          ((Below.refl _ _).alloc (Nat.le_refl _) _).alloc (by simp) _
        have hx3 := hxk.ob hb3
        have hy3 := hyk.ob hb3
        clear hx hy hsame hA hB
        by_cases hn : nx = ny ∧ (Tr.mk kx dx ex (.slice xa ksx.length xc) ksx : Lt).bare = (Tr.mk ky dy ey (.slice ya ksy.length yc) ksy : Lt).bare
        · have HC : Hid (∀ W, (Tr.mk kx dx ex (.slice xa ksx.length xc) ksx : Lt).Ok W → (Tr.mk ky dy ey (.slice ya ksy.length yc) ksy : Lt).Ok W → Calls Tryz.prog 41 #[.agg #[.string nx, .string kx, .string dx, .bool ex, .slice xa ksx.length xc], .agg #[.string ny, .string ky, .string dy, .bool ey, .slice ya ksy.length yc]] W fun e w' => e = .returned (.bool true) ∧ Below W.heap.size W w') := hidd (fun W hx hy => same_cl m hS (nx, .mk kx dx ex (.slice xa ksx.length xc) ksx) (ny, .mk ky dy ey (.slice ya ksy.length yc) ksy) W true hxs hx hy (by simp [hn]))
          have HS2 : Hid (∀ i (h : i < ksa.length) (h' : i < ksb.length), i < k + 1 → ksa[i].1 = ksb[i].1 ∧ ksa[i].2.bare = ksb[i].2.bare) := hidd (fun i h h' hi => by
            by_cases e : i = k
            · subst e; rw [HX.out, HY.out]; exact hn
            · exact HS.out i h h' (by omega))
          clear hn
          go_wp2_with fail
          refine (HC.out _ hx3 hy3).mono ?_
          rintro e w5 ⟨rfl, hb5⟩
          have hB5 := hbel.trans ((hb3.trans (hb5.mono hb3.size)).mono hbel.size)
          clear hx3 hy3 hxk hyk a0 a1 a2 a3 a4 c0 c1 c2 c3 c4 hb5
          go_wp2_with fail
          go_roundw
          case rel => exact ⟨k + 1, by omega, by go_num, HS2.out, hB5⟩
          case measure => simp [intOf]; omega
        · have HC : Hid (∀ W, (Tr.mk kx dx ex (.slice xa ksx.length xc) ksx : Lt).Ok W → (Tr.mk ky dy ey (.slice ya ksy.length yc) ksy : Lt).Ok W → Calls Tryz.prog 41 #[.agg #[.string nx, .string kx, .string dx, .bool ex, .slice xa ksx.length xc], .agg #[.string ny, .string ky, .string dy, .bool ey, .slice ya ksy.length yc]] W fun e w' => e = .returned (.bool false) ∧ Below W.heap.size W w') := hidd (fun W hx hy => same_cl m hS (nx, .mk kx dx ex (.slice xa ksx.length xc) ksx) (ny, .mk ky dy ey (.slice ya ksy.length yc) ksy) W false hxs hx hy (by simp [hn]))
          have HF : Hid (r = false) := hidd (by
            cases r; rfl
            have := (HR.out.1 rfl).2 k hlt hltb
            rw [HX.out, HY.out] at this
            exact absurd this hn)
          clear hn
          go_wp2_with fail
          refine (HC.out _ hx3 hy3).mono ?_
          rintro e w5 ⟨rfl, hb5⟩
          have hB5 := hbel.trans ((hb3.trans (hb5.mono hb3.size)).mono hbel.size)
          clear hx3 hy3 hxk hyk a0 a1 a2 a3 a4 c0 c1 c2 c3 c4 hb5
          go_wp2_with fail
          go_ret
          exact ⟨by rw [HF.out]; rfl, hB5⟩
      · have HT : Hid (r = true) := hidd (HR.out.2 ⟨HL.out, fun i h h' => hsame i h h' (by omega)⟩)
        clear hsame
        go_wp2_with fail
        go_ret
        exact ⟨by rw [HT.out]; rfl, hbel⟩
  · have q4 : ((ksa.length : Int) == (ksb.length : Int)) = false := by simp; omega
    have q4' : ((ksa.length : Int) != (ksb.length : Int)) = true := by rw [bne_iff_ne]; omega
    have HF : Hid (r = false) := hidd (by cases r; rfl; exact absurd (HR.out.1 rfl).1 h4)
    clear h4 ha hb
    go_enter Tryz.func40, Tryz.ntmps40
    go_wp2_with fail
    go_ret
    exact ⟨by rw [HF.out]; rfl, Below.refl _ _⟩

set_option maxRecDepth 100000 in
set_option maxHeartbeats 4000000 in
theorem same_step (m : Nat) (hS : SameH m) : SameH (m + 1) := by
  intro a b w r hm ha hb hr
  have hb2 : Below w.heap.size w ((w.alloc (.cells #[.string a.kind, .string a.data, .bool a.exec, a.v] 32)).alloc (.cells #[.string b.kind, .string b.data, .bool b.exec, b.v] 32)) :=
    ((Below.refl _ _).alloc (Nat.le_refl _) _).alloc (by simp) _
  have ha2 := ha.ob hb2
  have hb3 := hb.ob hb2
  rw [Tr.bare_iff] at hr
  have HKA : ∀ x ∈ a.kids, x.2.sz ≤ m := fun x h => by have := Tr.sz_lt h; omega
  have HR := hidd hr
  unfold nval
  clear hr hm
  by_cases h1 : a.kind = b.kind
  · have q1 : (a.kind.toList == b.kind.toList) = true := by simp [h1]
    by_cases h2 : a.data = b.data
    · have q2 : (a.data.toList == b.data.toList) = true := by simp [h2]
      by_cases h3 : a.exec = b.exec
      · have q3 : (a.exec == b.exec) = true := by rw [h3]; cases b.exec <;> rfl
        have HC : Hid (∀ W, a.Ok W → b.Ok W → Calls Tryz.prog 40 #[a.v, b.v, .func (.func 41) #[] #[]] W fun e w' => e = .returned (.bool r) ∧ Below W.heap.size W w') :=
          hidd (fun W ha hb => same_eqf m hS a b W r HKA ha hb (by rw [HR.out]; simp [h1, h2, h3]))
        clear h1 h2 h3 HKA
        go_enter Tryz.func15, Tryz.ntmps15
        go_wp2_with fail
        refine (HC.out _ ha2 hb3).mono ?_
        rintro e w' ⟨rfl, hb⟩
        cases r
        all_goals
          go_wp2_with fail
          go_ret
          exact ⟨rfl, hb2.trans (hb.mono hb2.size)⟩
      · have q3 : (a.exec == b.exec) = false := by cases h : a.exec <;> cases h' : b.exec <;> simp_all
        have HF : Hid (r = false) := hidd (by cases r; rfl; exact absurd (HR.out.1 rfl).2.2.1 h3)
        clear h1 h2 h3
        go_enter Tryz.func15, Tryz.ntmps15
        go_wp2_with fail
        go_ret
        exact ⟨by rw [HF.out]; rfl, hb2⟩
    · have q2 : (a.data.toList == b.data.toList) = false := beq_str h2
      have HF : Hid (r = false) := hidd (by cases r; rfl; exact absurd (HR.out.1 rfl).2.1 h2)
      clear h1 h2
      go_enter Tryz.func15, Tryz.ntmps15
      go_wp2_with fail
      go_ret
      exact ⟨by rw [HF.out]; rfl, hb2⟩
  · have q1 : (a.kind.toList == b.kind.toList) = false := beq_str h1
    have HF : Hid (r = false) := hidd (by cases r; rfl; exact absurd (HR.out.1 rfl).1 h1)
    clear h1
    go_enter Tryz.func15, Tryz.ntmps15
    go_wp2_with fail
    go_ret
    exact ⟨by rw [HF.out]; rfl, hb2⟩

theorem same_h : ∀ m, SameH m
  | 0 => fun a b w r hm => by have := Tr.sz_kids a; omega
  | m + 1 => same_step m (same_h m)
theorem same_any (a b : Lt) (w : World) (r : Bool) (ha : a.Ok w) (hb : b.Ok w) (hr : r = true ↔ a.bare = b.bare) :
    Calls Tryz.prog 15 #[nval a, nval b] w fun e w' => e = .returned (.bool r) ∧ Below w.heap.size w w' := same_h a.sz a b w r (Nat.le_refl _) ha hb hr
end Go.Proofs.YtoemahhpheobkaaGreatDoor
