/- The contract of tree.each, over any function value that keeps a promise. Condition: as stated. -/
import Derived.Test.YthnlaigabefidaaGreatDoorTrC
import Derived.Lib.MinMaxS
namespace Go.Proofs.YthnlaigabefidaaGreatDoor
open Go.RowKit Go.Shelf

mutual
theorem in_and {F G : Nat → Prop} : ∀ t : Lt, t.In F → t.In G → t.In (fun b => F b ∧ G b)
  | .mk _ _ _ _ ks => fun h k => by rw [Tr.In] at h k ⊢; exact ⟨fun hn b hb => ⟨h.1 hn b hb, k.1 hn b hb⟩, inS_and ks h.2 k.2⟩
theorem inS_and {F G : Nat → Prop} : ∀ ks : List (ByteArray × Lt), InS F ks → InS G ks → InS (fun b => F b ∧ G b) ks
  | [] => fun _ _ => by rw [InS]; trivial
  | (n, t) :: r => fun h k => by rw [InS] at h k ⊢; exact ⟨in_and t h.1 k.1, inS_and r h.2 k.2⟩
end

/-- What a walk over a tree's nodes keeps: F: the blocks that are the walker's own, l: what has been seen. -/
structure Walker (q : Nat) (P : It Value → Prop) (J : (Nat → Prop) → List (It Value) → World → Prop) : Prop where
  own : ∀ F l W, J F l W → ∀ b, F b → b < W.heap.size
  later : ∀ F l W W', J F l W → Below W.heap.size W W' → J F l W'
  step : ∀ F l (x : It Value) W, J F l W → l.length < 1000 → P x → x.n.Ok W → Calls Tryz.prog 58 #[nval x.n, .string x.path, .pointer (some ⟨q, 0, none⟩)] W fun e W' =>
    e = .returned (.tuple #[]) ∧ ∃ F', J F' (l ++ [x]) W' ∧ Fr F W W' ∧ ∀ b, F' b → F b ∨ W.heap.size ≤ b
def EachP (J : (Nat → Prop) → List (It Value) → World → Prop) (F : Nat → Prop) (l : List (It Value)) (w : World) (e : Ending) (w' : World) : Prop :=
  e = .returned (.tuple #[]) ∧ ∃ F', J F' l w' ∧ Fr F w w' ∧ ∀ b, F' b → F b ∨ w.heap.size ≤ b

set_option maxRecDepth 100000 in
set_option maxHeartbeats 40000000 in
theorem each_any (q : Nat) (P : It Value → Prop) (hP : ∀ x, P x → x.path.size ≤ 4000000000000000000) (J : (Nat → Prop) → List (It Value) → World → Prop) (hW : Walker q P J) (m : Nat) :
    ∀ (t : Lt) (p : ByteArray) (d : Nat) (F : Nat → Prop) (l : List (It Value)) (w : World), t.sz ≤ m → t.Ok w → t.In (fun b => ¬ F b) → J F l w → l.length + t.sz ≤ 1000 → (∀ x ∈ pre p d t, P x) →
    Calls Tryz.prog 57 #[nval t, .string p, .func (.func 58) #[] #[.pointer (some ⟨q, 0, none⟩)]] w (EachP J F (l ++ pre p d t) w) := by
  induction m with
  | zero => intro t p d F l w hm; have := Tr.sz_kids t; omega
  | succ m ih =>
    intro t p d F l w hm ht hin hJ hl hPP
    obtain ⟨a, cap, hv⟩ := ht.shape
    have hle := ht.le
    have HKA : Hid (∀ i (h : i < t.kids.length), t.kids[i].2.sz ≤ m) := hidd (fun i h => by have := Tr.sz_lt (List.getElem_mem h); omega)
    have hsz := Tr.sz_kids t
    rw [pre_cons] at hPP ⊢
    have hP0 := hPP _ (List.mem_cons_self ..)
    have hPK : ∀ x ∈ pres p (d + 1) t.kids, P x := fun x hx => hPP x (List.mem_cons_of_mem _ hx)
    have hB0 : Below w.heap.size w (w.alloc (.cells #[.string t.kind, .string t.data, .bool t.exec, .slice a t.kids.length cap] 24)) := (Below.refl _ _).alloc (Nat.le_refl _) _
    have hbx := Blk.new w [.string t.kind, .string t.data, .bool t.exec, .slice a t.kids.length cap] 24
    have hxF : ¬ F w.heap.size := fun h => by have := hW.own _ _ _ hJ _ h; omega
    have hC := hW.step F l ⟨p, d, t⟩ _ (hW.later _ _ _ _ hJ hB0) (by omega) hP0 (ht.ob hB0)
    have hin2 := in_and t hin (ok_in t ht)
    unfold nval at hC ⊢
    simp only at hC
    rw [hv] at hC ⊢
    have HC := hidd hC
    have HV := hidd hv
    clear hC hv hPP hP0
    go_enter Tryz.func57, Tryz.ntmps57
    go_wp2_with fail
    refine HC.out.mono ?_
    rintro e w1 ⟨rfl, F1, hJ1, hf1, hF1⟩
    have hbx1 := hbx.fr hf1 hxF
    have hx3 := hbx1.cell (i := 3) rfl
    have ht1 := ok_fr hf1 t (ht.ob hB0) hin
    have hz0 : (w.alloc (.cells #[.string t.kind, .string t.data, .bool t.exec, .slice a t.kids.length cap] 24)).heap.size = w.heap.size + 1 := by simp
    have hf01 : Fr F w w1 := (Fr.ob hB0).trans hf1
    have hFF : ∀ b, F1 b → F b ∨ w.heap.size ≤ b := fun b hb => (hF1 b hb).elim .inl (fun h => .inr (by omega))
    have HT := hidd ht
    clear hbx hbx1 hf1 hB0 hJ ht hF1
    go_wp2_with fail
    go_loopw [15] (fun v wr => ∃ (k : Nat) (F2 : Nat → Prop), k ≤ t.kids.length ∧ v = .int .i64 (k : Int) ∧ J F2 (l ++ [⟨p, d, t⟩] ++ pres p (d + 1) (t.kids.take k)) wr ∧ Fr F w wr ∧ (∀ b, F2 b → F b ∨ w.heap.size ≤ b)) (fun v _ => t.kids.length - (intOf v).toNat)
    case atStart => exact ⟨0, F1, Nat.zero_le _, rfl, by simpa [pres] using hJ1, hf01, hFF⟩
    case round =>
      obtain ⟨k, F2, hk, rfl, hJ2, hf2, hF2⟩ := hrel
      have htr := ok_fr hf2 t HT.out hin
      have hin3 : t.In (fun b => ¬ F2 b) := in_mono (fun b hb h => by
        rcases hF2 b h with h | h
        · exact hb.1 h
        · omega) t hin2
      by_cases hlt : k < t.kids.length
      · have hks := HKA.out k hlt
        have hkk := htr.get hlt
        have hki := hin3.get hlt
        have hnm := htr.names _ (List.getElem_mem hlt)
        obtain ⟨xa, xc, hxv⟩ := hkk.shape
        obtain ⟨b1, o1, rfl, hb1, a0, a1, a2, a3, a4⟩ := htr.at5 HV.out hlt
        have hst : pres p (d + 1) (t.kids.take (k + 1)) = pres p (d + 1) (t.kids.take k) ++ pre (sub p t.kids[k].1) (d + 1) t.kids[k].2 := by
          rw [List.take_succ_eq_append_getElem hlt, pres_app]
          rw [show [t.kids[k]] = [(t.kids[k].1, t.kids[k].2)] from rfl, pres_one]
        have hsz2 := szs_succ t.kids hlt
        have hszt : Tr.szs (t.kids.take (k + 1)) ≤ Tr.szs t.kids := by
          have e := List.take_append_drop (k + 1) t.kids
          have := Tr.szs_app (t.kids.take (k + 1)) (t.kids.drop (k + 1))
          rw [e] at this; omega
        have hPk : ∀ x ∈ pre (sub p t.kids[k].1) (d + 1) t.kids[k].2, P x := fun x hx => hPK x (by
          have e := List.take_append_drop (k + 1) t.kids
          rw [← e, pres_app, hst]
          exact List.mem_append_left _ (List.mem_append_right _ hx))
        have p1 : (0 : Int) ≤ (k : Int) := by omega
        have p2 : (k : Int) < (t.kids.length : Int) := by omega
        generalize t.kids[k] = x at *
        obtain ⟨nx, ⟨kx, dx, ex, vx, ksx⟩⟩ := x
        simp only [Tr.kind, Tr.data, Tr.exec, Tr.v, Tr.kids] at a0 a1 a2 a3 a4 hxv hnm
        subst hxv
        have hB3 : Below wr.heap.size wr (wr.alloc (.cells #[.string nx, .string kx, .string dx, .bool ex, .slice xa ksx.length xc] 56)) := (Below.refl _ _).alloc (Nat.le_refl _) _
        have hpp := hP _ (hPk _ (by rw [pre_cons]; exact List.mem_cons_self ..))
        simp only at hpp
        have hss : (sub p nx).size = p.size + 1 + nx.size := by unfold sub; rw [ByteArray.size_append, ByteArray.size_append]; rfl
        have hll : (l ++ [(⟨p, d, t⟩ : It Value)] ++ pres p (d + 1) (t.kids.take k)).length = l.length + 1 + Tr.szs (t.kids.take k) := by simp only [List.length_append, List.length_cons, List.length_nil, pres_len]
        have hC2 := ih _ (sub p nx) (d + 1) F2 _ _ hks (hkk.ob hB3) hki (hW.later _ _ _ _ hJ2 hB3) (by rw [hll]; omega) hPk
        unfold nval sub at hC2
        simp only [Tr.kind, Tr.data, Tr.exec, Tr.v] at hC2
        have HC2 := hidd hC2
        have HST := hidd hst
        have r1 : ¬ (9223372036854775807 < p.size + 1) := by omega
        have r2 : ¬ (9223372036854775807 < p.size + 1 + nx.size) := by omega
        clear hC2 hst hsz2 hszt hPk hss hll hpp hkk hki htr hin3
        go_wp2_with fail
        refine HC2.out.mono ?_
        rintro e w4 ⟨rfl, F4, hJ4, hf4, hF4⟩
        have hz3 : (wr.alloc (.cells #[.string nx, .string kx, .string dx, .bool ex, .slice xa ksx.length xc] 56)).heap.size = wr.heap.size + 1 := by simp
        have hzr := hf2.size
        have hfr4 : Fr F w w4 := hf2.trans' ((Fr.ob hB3).trans hf4) (fun _ _ h => h) (fun b hb h => (hF2 b h).elim id (fun h => by omega))
        have hFF4 : ∀ b, F4 b → F b ∨ w.heap.size ≤ b := fun b hb => (hF4 b hb).elim (hF2 b) (fun h => .inr (by omega))
        have HJ4 : Hid (J F4 (l ++ [⟨p, d, t⟩] ++ pres p (d + 1) (t.kids.take (k + 1))) w4) := hidd (by rw [HST.out, ← List.append_assoc]; exact hJ4)
        clear hJ4 hf4 hF4 hB3 hz3 hf2 hF2 hJ2 a0 a1 a2 a3 a4
        go_wp2_with fail
        go_roundw
        case rel => exact ⟨k + 1, F4, hlt, by go_num, HJ4.out, hfr4, hFF4⟩
        case measure => simp [intOf]; omega
      · have hkl : k = t.kids.length := by omega
        have HF : Hid (EachP J F (l ++ ⟨p, d, t⟩ :: pres p (d + 1) t.kids) w (.returned (.tuple #[])) wr) := hidd ⟨rfl, F2, by
          rw [hkl, List.take_of_length_le (Nat.le_refl _)] at hJ2
          simpa using hJ2, hf2, hF2⟩
        clear hkl htr hin3 hf2 hF2 hJ2
        go_wp2_with fail
        go_end0
        exact HF.out
end Go.Proofs.YthnlaigabefidaaGreatDoor
