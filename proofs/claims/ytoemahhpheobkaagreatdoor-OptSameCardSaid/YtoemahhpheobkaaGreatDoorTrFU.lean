/- The contract of tree.each, over any function value that keeps a promise. Condition: as stated. · The contracts of tree.Each, over the function values of Count, Size and Files. Condition: as stated. · The contracts of tree.Count, Size and Files. Condition: the tree is there, the variables read as listed. · The contract of tree.Files. Condition: the tree is there, the variables read as listed. · Sums over a tree's nodes, in plain words. No condition. -/
import Derived.Test.YtoemahhpheobkaaGreatDoorTrC
import Derived.Lib.MinMaxS
import Derived.Test.YtoemahhpheobkaaGreatDoorTxt
namespace Go.Proofs.YtoemahhpheobkaaGreatDoor
open Go.RowKit Go.Shelf
abbrev fuGs : List Nat := trGs
theorem Env.fu {B : Nat} {w : World} {E : Nat → Addr} (h : Env fuGs B w E) : Env trGs B w E := h
theorem kFile_list : kFile.toList = [102, 105, 108, 101] := by rw [Lib.toList_data]; rfl
def fileSz {α : Type} (l : List (It α)) : Nat := (l.map fun x => if x.n.kind = kFile then x.n.data.size else 0).sum
theorem fileSz_snoc {α : Type} (l : List (It α)) (x : It α) : fileSz (l ++ [x]) = fileSz l + if x.n.kind = kFile then x.n.data.size else 0 := by simp [fileSz]

mutual
theorem in_and {F G : Nat → Prop} : ∀ t : Lt, t.In F → t.In G → t.In (fun b => F b ∧ G b)
  | .mk _ _ _ _ ks => fun h k => by rw [Tr.In] at h k ⊢; exact ⟨fun hn b hb => ⟨h.1 hn b hb, k.1 hn b hb⟩, inS_and ks h.2 k.2⟩
theorem inS_and {F G : Nat → Prop} : ∀ ks : List (ByteArray × Lt), InS F ks → InS G ks → InS (fun b => F b ∧ G b) ks
  | [] => fun _ _ => by rw [InS]; trivial
  | (n, t) :: r => fun h k => by rw [InS] at h k ⊢; exact ⟨in_and t h.1 k.1, inS_and r h.2 k.2⟩
end

/-- What a walk over a tree's nodes keeps: F: the blocks that are the walker's own, l: what has been seen. -/
structure Walker (q : Nat) (P : It Value → Prop) (J : (Nat → Prop) → List (It Value) → World → Prop) : Prop where
  own : ∀ F l W, J F l W → ∀ b, F b → b < W.heap.size
  later : ∀ F l W W', J F l W → Below W.heap.size W W' → J F l W'
  step : ∀ F l (x : It Value) W, J F l W → l.length < 1000 → P x → x.n.Ok W → Calls Tryz.prog 73 #[nval x.n, .string x.path, .pointer (some ⟨q, 0, none⟩)] W fun e W' =>
    e = .returned (.tuple #[]) ∧ ∃ F', J F' (l ++ [x]) W' ∧ Fr F W W' ∧ ∀ b, F' b → F b ∨ W.heap.size ≤ b
def EachP (J : (Nat → Prop) → List (It Value) → World → Prop) (F : Nat → Prop) (l : List (It Value)) (w : World) (e : Ending) (w' : World) : Prop :=
  e = .returned (.tuple #[]) ∧ ∃ F', J F' l w' ∧ Fr F w w' ∧ ∀ b, F' b → F b ∨ w.heap.size ≤ b

set_option maxRecDepth 100000 in
set_option maxHeartbeats 40000000 in
theorem each_any (q : Nat) (P : It Value → Prop) (hP : ∀ x, P x → x.path.size ≤ 4000000000000000000) (J : (Nat → Prop) → List (It Value) → World → Prop) (hW : Walker q P J) (m : Nat) :
    ∀ (t : Lt) (p : ByteArray) (d : Nat) (F : Nat → Prop) (l : List (It Value)) (w : World), t.sz ≤ m → t.Ok w → t.In (fun b => ¬ F b) → J F l w → l.length + t.sz ≤ 1000 → (∀ x ∈ pre p d t, P x) →
    Calls Tryz.prog 72 #[nval t, .string p, .func (.func 73) #[] #[.pointer (some ⟨q, 0, none⟩)]] w (EachP J F (l ++ pre p d t) w) := by
  induction m with
  | zero => intro t p d F l w hm; have := Tr.sz_kids t; omega
  | succ m ih =>
    intro t p d F l w hm ht hin hJ hl hPP
    obtain ⟨a, cap, hv⟩ := ht.shape
    have hle := ht.le
    have HKA : Hid (∀ i (h : i < t.kids.length), t.kids[i].2.sz ≤ m) := hidd (fun i h => by have := Tr.sz_lt (List.getElem_mem h); omega)
    have hsz := Tr.sz_kids t
    rw [pre_cons] at hPP ⊢
    have hP0 := hPP _ (List.mem_cons_self ..)
    have hPK : ∀ x ∈ pres p (d + 1) t.kids, P x := fun x hx => hPP x (List.mem_cons_of_mem _ hx)
    have hB0 : Below w.heap.size w (w.alloc (.cells #[.string t.kind, .string t.data, .bool t.exec, .slice a t.kids.length cap] 32)) := (Below.refl _ _).alloc (Nat.le_refl _) _
    have hbx := Blk.new w [.string t.kind, .string t.data, .bool t.exec, .slice a t.kids.length cap] 32
    have hxF : ¬ F w.heap.size := fun h => by have := hW.own _ _ _ hJ _ h; omega
    have hC := hW.step F l ⟨p, d, t⟩ _ (hW.later _ _ _ _ hJ hB0) (by omega) hP0 (ht.ob hB0)
    have hin2 := in_and t hin (ok_in t ht)
    unfold nval at hC ⊢
    simp only at hC
    rw [hv] at hC ⊢
    have HC := hidd hC
    have HV := hidd hv
    clear hC hv hPP hP0
    go_enter Tryz.func72, Tryz.ntmps72
    go_wp2_with fail
    refine HC.out.mono ?_
    rintro e w1 ⟨rfl, F1, hJ1, hf1, hF1⟩
    have hbx1 := hbx.fr hf1 hxF
    have hx3 := hbx1.cell (i := 3) rfl
    have ht1 := ok_fr hf1 t (ht.ob hB0) hin
    have hz0 : (w.alloc (.cells #[.string t.kind, .string t.data, .bool t.exec, .slice a t.kids.length cap] 32)).heap.size = w.heap.size + 1 := by simp
    have hf01 : Fr F w w1 := (Fr.ob hB0).trans hf1
    have hFF : ∀ b, F1 b → F b ∨ w.heap.size ≤ b := fun b hb => (hF1 b hb).elim .inl (fun h => .inr (by omega))
    have HT := hidd ht
    clear hbx hbx1 hf1 hB0 hJ ht hF1
    go_wp2_with fail
    go_loopw [15] (fun v wr => ∃ (k : Nat) (F2 : Nat → Prop), k ≤ t.kids.length ∧ v = .int .i64 (k : Int) ∧ J F2 (l ++ [⟨p, d, t⟩] ++ pres p (d + 1) (t.kids.take k)) wr ∧ Fr F w wr ∧ (∀ b, F2 b → F b ∨ w.heap.size ≤ b)) (fun v _ => t.kids.length - (intOf v).toNat)
    case atStart => exact ⟨0, F1, Nat.zero_le _, rfl, by simpa [pres] using hJ1, hf01, hFF⟩
    case round =>
      obtain ⟨k, F2, hk, rfl, hJ2, hf2, hF2⟩ := hrel
      have htr := ok_fr hf2 t HT.out hin
      have hin3 : t.In (fun b => ¬ F2 b) := in_mono (fun b hb h => by
        rcases hF2 b h with h | h
        · exact hb.1 h
        · omega) t hin2
      by_cases hlt : k < t.kids.length
      · have hks := HKA.out k hlt
        have hkk := htr.get hlt
        have hki := hin3.get hlt
        have hnm := htr.names _ (List.getElem_mem hlt)
        obtain ⟨xa, xc, hxv⟩ := hkk.shape
        obtain ⟨b1, o1, rfl, hb1, a0, a1, a2, a3, a4⟩ := htr.at5 HV.out hlt
        have hst : pres p (d + 1) (t.kids.take (k + 1)) = pres p (d + 1) (t.kids.take k) ++ pre (sub p t.kids[k].1) (d + 1) t.kids[k].2 := by
          rw [List.take_succ_eq_append_getElem hlt, pres_app]
          rw [show [t.kids[k]] = [(t.kids[k].1, t.kids[k].2)] from rfl, pres_one]
        have hsz2 := szs_succ t.kids hlt
        have hszt : Tr.szs (t.kids.take (k + 1)) ≤ Tr.szs t.kids := by
          have e := List.take_append_drop (k + 1) t.kids
          have := Tr.szs_app (t.kids.take (k + 1)) (t.kids.drop (k + 1))
          rw [e] at this; omega
        have hPk : ∀ x ∈ pre (sub p t.kids[k].1) (d + 1) t.kids[k].2, P x := fun x hx => hPK x (by
          have e := List.take_append_drop (k + 1) t.kids
          rw [← e, pres_app, hst]
          exact List.mem_append_left _ (List.mem_append_right _ hx))
        have p1 : (0 : Int) ≤ (k : Int) := by omega
        have p2 : (k : Int) < (t.kids.length : Int) := by omega
        generalize t.kids[k] = x at *
        obtain ⟨nx, ⟨kx, dx, ex, vx, ksx⟩⟩ := x
        simp only [Tr.kind, Tr.data, Tr.exec, Tr.v, Tr.kids] at a0 a1 a2 a3 a4 hxv hnm
        subst hxv
        have hB3 : Below wr.heap.size wr (wr.alloc (.cells #[.string nx, .string kx, .string dx, .bool ex, .slice xa ksx.length xc] 85)) := (Below.refl _ _).alloc (Nat.le_refl _) _
        have hpp := hP _ (hPk _ (by rw [pre_cons]; exact List.mem_cons_self ..))
        simp only at hpp
        have hss : (sub p nx).size = p.size + 1 + nx.size := by unfold sub; rw [ByteArray.size_append, ByteArray.size_append]; rfl
        have hll : (l ++ [(⟨p, d, t⟩ : It Value)] ++ pres p (d + 1) (t.kids.take k)).length = l.length + 1 + Tr.szs (t.kids.take k) := by simp only [List.length_append, List.length_cons, List.length_nil, pres_len]
        have hC2 := ih _ (sub p nx) (d + 1) F2 _ _ hks (hkk.ob hB3) hki (hW.later _ _ _ _ hJ2 hB3) (by rw [hll]; omega) hPk
        unfold nval sub at hC2
        simp only [Tr.kind, Tr.data, Tr.exec, Tr.v] at hC2
        have HC2 := hidd hC2
        have HST := hidd hst
        have r1 : ¬ (9223372036854775807 < p.size + 1) := by omega
        have r2 : ¬ (9223372036854775807 < p.size + 1 + nx.size) := by omega
        clear hC2 hst hsz2 hszt hPk hss hll hpp hkk hki htr hin3
        go_wp2_with fail
        refine HC2.out.mono ?_
        rintro e w4 ⟨rfl, F4, hJ4, hf4, hF4⟩
        have hz3 : (wr.alloc (.cells #[.string nx, .string kx, .string dx, .bool ex, .slice xa ksx.length xc] 85)).heap.size = wr.heap.size + 1 := by simp
        have hzr := hf2.size
        have hfr4 : Fr F w w4 := hf2.trans' ((Fr.ob hB3).trans hf4) (fun _ _ h => h) (fun b hb h => (hF2 b h).elim id (fun h => by omega))
        have hFF4 : ∀ b, F4 b → F b ∨ w.heap.size ≤ b := fun b hb => (hF4 b hb).elim (hF2 b) (fun h => .inr (by omega))
        have HJ4 : Hid (J F4 (l ++ [⟨p, d, t⟩] ++ pres p (d + 1) (t.kids.take (k + 1))) w4) := hidd (by rw [HST.out, ← List.append_assoc]; exact hJ4)
        clear hJ4 hf4 hF4 hB3 hz3 hf2 hF2 hJ2 a0 a1 a2 a3 a4
        go_wp2_with fail
        go_roundw
        case rel => exact ⟨k + 1, F4, hlt, by go_num, HJ4.out, hfr4, hFF4⟩
        case measure => simp [intOf]; omega
      · have hkl : k = t.kids.length := by omega
        have HF : Hid (EachP J F (l ++ ⟨p, d, t⟩ :: pres p (d + 1) t.kids) w (.returned (.tuple #[])) wr) := hidd ⟨rfl, F2, by
          rw [hkl, List.take_of_length_le (Nat.le_refl _)] at hJ2
          simpa using hJ2, hf2, hF2⟩
        clear hkl htr hin3 hf2 hF2 hJ2
        go_wp2_with fail
        go_end0
        exact HF.out
end Go.Proofs.YtoemahhpheobkaaGreatDoor

namespace Go.Proofs.YtoemahhpheobkaaGreatDoor
open Go.RowKit Go.Shelf

def pathOf (p : ByteArray) : ByteArray := Lib.maxS p ⟨#[47]⟩
def listed {α : Type} (t : Tr α) : List (It α) := if treeE t = 0 then pre ⟨#[]⟩ 0 t else []
mutual
theorem pre_path {α : Type} (p : ByteArray) (d : Nat) : ∀ t : Tr α, (∀ y ∈ pre p d t, ownE y.n = 0) → ∀ x ∈ pre p d t, x.path.size + 13 * d ≤ p.size + 13 * x.deep
  | .mk k da e v ks => fun h x hx => by
    rw [pre] at h hx
    have h0 := h _ (List.mem_cons_self ..)
    have hn : ∀ k ∈ ks, k.1.size ≤ 12 := fun y hy => by
      unfold ownE at h0
      repeat (split at h0; omega)
      rename_i h5 _
      have h6 : (ks.map (·.1)).all isName = true := by
        cases hq : (ks.map (·.1)).all isName with
        | true => rfl
        | false => exact absurd hq h5
      rw [List.all_map, List.all_eq_true] at h6
      have h7 : isName y.1 = true := h6 y hy
      unfold isName at h7
      simp only [Bool.and_eq_true, decide_eq_true_eq] at h7
      exact h7.1.1.2
    rcases List.mem_cons.1 hx with rfl | hx
    · simp
    · have := pres_path p (d + 1) ks hn (fun y hy => h y (List.mem_cons_of_mem _ hy)) x hx
      omega
theorem pres_path {α : Type} (p : ByteArray) (d : Nat) : ∀ ks : List (ByteArray × Tr α), (∀ k ∈ ks, k.1.size ≤ 12) → (∀ y ∈ pres p d ks, ownE y.n = 0) → ∀ x ∈ pres p d ks, x.path.size + 13 * d ≤ p.size + 13 + 13 * x.deep
  | [] => fun _ _ x hx => by simp [pres] at hx
  | (n, t) :: r => fun hk h x hx => by
    rw [pres] at h hx
    have hn := hk (n, t) (by simp)
    have hss : (sub p n).size = p.size + 1 + n.size := by unfold sub; rw [ByteArray.size_append, ByteArray.size_append]; rfl
    rcases List.mem_append.1 hx with hx | hx
    · have := pre_path (sub p n) d t (fun y hy => h y (List.mem_append_left _ hy)) x hx
      simp only at hn
      omega
    · exact pres_path p d r (fun k hk' => hk k (by simp [hk'])) (fun y hy => h y (List.mem_append_right _ hy)) x hx
end
theorem own_data {α : Type} {t : Tr α} (h : ownE t = 0) : t.data.size ≤ 2000 := by
  unfold ownE at h
  split at h; omega
  split at h; omega
  split at h; omega
  rename_i h1
  omega
/-- What holds of each node of a tree that is right. -/
def Fine (x : It Value) : Prop := x.path.size ≤ 1000 ∧ x.n.data.size ≤ 2000
theorem fine_of {t : Lt} (h : treeE t = 0) : (∀ x ∈ pre ⟨#[]⟩ 0 t, Fine x) ∧ t.sz ≤ 200 := by
  obtain ⟨h1, h2⟩ := scan_zero h
  refine ⟨fun x hx => ?_, ?_⟩
  · have hp := pre_path ⟨#[]⟩ 0 t (fun y hy => (h1 y hy).2) x hx
    have := (h1 x hx).1
    have hz : (⟨#[]⟩ : ByteArray).size = 0 := rfl
    exact ⟨by omega, own_data (h1 x hx).2⟩
  · have := h2 (by rw [pre_cons]; simp)
    rw [pre_len] at this; omega

/-- What Each leaves. -/
def EachQ (J : (Nat → Prop) → List (It Value) → World → Prop) (F : Nat → Prop) (l : List (It Value)) (w : World) (e : Ending) (w' : World) : Prop :=
  e = .returned (.tuple #[]) ∧ ∃ F', J F' l w' ∧ Fr F w w' ∧ ∀ b, F' b → F b ∨ w.heap.size ≤ b

/-- What tree.Files's function keeps. -/
structure WalkFiles (c : Nat) (J : (Nat → Prop) → List (It Value) → World → Prop) : Prop where
  own : ∀ F l W, J F l W → ∀ b, F b → b < W.heap.size
  later : ∀ F l W W', J F l W → Below W.heap.size W W' → J F l W'
  step : ∀ F l (x : It Value) W, J F l W → l.length < 1000 → Fine x → x.n.Ok W → Calls Tryz.prog 43 #[nval x.n, .string (pathOf x.path), .pointer (some ⟨c, 0, none⟩)] W fun e W' =>
    e = .returned (.tuple #[]) ∧ ∃ F', J F' (l ++ [x]) W' ∧ Fr F W W' ∧ ∀ b, F' b → F b ∨ W.heap.size ≤ b
/-- The same, beside the box of the function value. -/
def BoxFiles (c q : Nat) (J : (Nat → Prop) → List (It Value) → World → Prop) (F : Nat → Prop) (l : List (It Value)) (W : World) : Prop :=
  J F l W ∧ W.cell? ⟨q, 0, none⟩ = some (.func (.func 43) #[] #[.pointer (some ⟨c, 0, none⟩)]) ∧ ¬ F q ∧ q < W.heap.size

set_option maxRecDepth 100000 in
theorem walkerFiles (c q : Nat) (J : (Nat → Prop) → List (It Value) → World → Prop) (hW : WalkFiles c J) : Walker q Fine (BoxFiles c q J) where
  own := fun F l W h => hW.own F l W h.1
  later := fun F l W W' h hb => ⟨hW.later F l W W' h.1 hb, (hb.cell (p := ⟨q, 0, none⟩) h.2.2.2).trans h.2.1, h.2.2.1, Nat.lt_of_lt_of_le h.2.2.2 hb.size⟩
  step := fun F l x W h hl hp hx => by
    obtain ⟨h1, h2, h3, h4⟩ := h
    obtain ⟨a, cap, hv⟩ := hx.shape
    have hB0 : Below W.heap.size W (W.alloc (.cells #[.string x.n.kind, .string x.n.data, .bool x.n.exec, .slice a x.n.kids.length cap] 32)) := (Below.refl _ _).alloc (Nat.le_refl _) _
    have hz : (W.alloc (.cells #[.string x.n.kind, .string x.n.data, .bool x.n.exec, .slice a x.n.kids.length cap] 32)).heap.size = W.heap.size + 1 := by simp
    have hc := (hB0.cell (p := ⟨q, 0, none⟩) h4).trans h2
    have hC := hW.step F l x _ (hW.later _ _ _ _ h1 hB0) hl hp (hx.ob hB0)
    have hmx : ∀ (w : World) (ts : Array TypeId) (t : TypeId), (Builtin.max_ ts t #[.string x.path, .string ⟨#[47]⟩]).run Tryz.prog w = .ok (.string (pathOf x.path)) w := fun w ts t => Lib.run_max_strs w ts t _ _
    unfold nval at hC ⊢
    rw [hv] at hC ⊢
    have HC := hidd hC
    generalize pathOf x.path = px at *
    clear hC hv hx h1
    go_enter Tryz.func73, Tryz.ntmps73
    go_wp2_with fail
    refine HC.out.mono ?_
    rintro e w4 ⟨rfl, F4, hJ4, hf4, hF4⟩
    have HF : Hid (∃ F', BoxFiles c q J F' (l ++ [x]) w4 ∧ Fr F W w4 ∧ ∀ b, F' b → F b ∨ W.heap.size ≤ b) := hidd ⟨F4, ⟨hJ4, hf4.cell hc h3, fun h => by rcases hF4 q h with h | h; exact h3 h; omega, by have := hf4.size; omega⟩, (Fr.ob hB0).trans hf4, fun b hb => (hF4 b hb).elim .inl (fun h => .inr (by omega))⟩
    clear hJ4 hf4 hF4 hc
    go_wp2_with fail
    go_end0
    exact ⟨rfl, HF.out⟩


set_option maxRecDepth 100000 in
set_option maxHeartbeats 4000000 in
theorem eachFiles (c : Nat) (J : (Nat → Prop) → List (It Value) → World → Prop) (hW : WalkFiles c J) (E : Nat → Addr) (B : Nat) (t : Lt) (F : Nat → Prop) (w : World) (ht : t.Ok w) (hin : t.In (fun b => ¬ F b)) (hE : Env fuGs B w E) (hJ : J F [] w) :
    Calls Tryz.prog 42 #[nval t, .func (.func 43) #[] #[.pointer (some ⟨c, 0, none⟩)]] w (EachQ J F (listed t) w) := by
  obtain ⟨a, cap, hv⟩ := ht.shape
  have hB2 : Below w.heap.size w ((w.alloc (.cells #[.string t.kind, .string t.data, .bool t.exec, .slice a t.kids.length cap] 32)).alloc (.cells #[.func (.func 43) #[] #[.pointer (some ⟨c, 0, none⟩)]] 96)) := ((Below.refl _ _).alloc (Nat.le_refl _) _).alloc (by simp) _
  have hb1 := (Blk.new w [.string t.kind, .string t.data, .bool t.exec, .slice a t.kids.length cap] 32).alloc (.cells #[.func (.func 43) #[] #[.pointer (some ⟨c, 0, none⟩)]] 96)
  have hb2 := Blk.new (w.alloc (.cells #[.string t.kind, .string t.data, .bool t.exec, .slice a t.kids.length cap] 32)) [.func (.func 43) #[] #[.pointer (some ⟨c, 0, none⟩)]] 96
  rw [show (w.alloc (.cells #[.string t.kind, .string t.data, .bool t.exec, .slice a t.kids.length cap] 32)).heap.size = w.heap.size + 1 by simp] at hb2
  have hC := check_tr E B t _ (ht.ob hB2) (hE.ob hB2).fu
  unfold nval at hC ⊢
  rw [hv] at hC ⊢
  by_cases h0 : treeE t = 0
  · have hl : listed t = pre ⟨#[]⟩ 0 t := if_pos h0
    obtain ⟨f1, f2⟩ := fine_of h0
    rw [h0, evc_zero] at hC
    rw [hl]
    have HC := hidd hC
    have HV := hidd hv
    clear hC hl hv h0
    go_enter Tryz.func42, Tryz.ntmps42
    go_wp2_with fail
    refine HC.out.mono ?_
    rintro e w2 ⟨rfl, hb3⟩
    have hB3 := hB2.trans (hb3.mono hB2.size)
    have hk1 := hb1.below hb3 hb1.lt
    have hk2 := hb2.below hb3 hb2.lt
    have hJ3 := hW.later _ _ _ _ hJ hB3
    have x0 := hk1.cell (i := 0) rfl
    have x1 := hk1.cell (i := 1) rfl
    have x2 := hk1.cell (i := 2) rfl
    have x3 := hk1.cell (i := 3) rfl
    have hbox : BoxFiles c (w.heap.size + 1) J F [] w2 := ⟨hJ3, hk2.cell (i := 0) rfl, fun h => by have := hW.own _ _ _ hJ _ h; omega, hk2.lt⟩
    have hCC := each_any (w.heap.size + 1) Fine (fun x hx => by have := hx.1; omega) (BoxFiles c (w.heap.size + 1) J) (walkerFiles c (w.heap.size + 1) J hW) t.sz t ⟨#[]⟩ 0 F [] w2 (Nat.le_refl _) (ht.ob hB3) hin hbox (by simp; omega) f1
    unfold nval at hCC
    rw [HV.out] at hCC
    have HCC := hidd hCC
    clear hCC hb1 hb2 hB2 hk1 hk2 hbox hJ3 hJ hb3 ht hE
    go_wp2_with fail
    refine HCC.out.mono ?_
    rintro e w4 ⟨rfl, F4, hJ4, hf4, hF4⟩
    have HF : Hid (EachQ J F (pre ⟨#[]⟩ 0 t) w (.returned (.tuple #[])) w4) := hidd ⟨rfl, F4, by simpa using hJ4.1, (Fr.ob hB3).trans hf4, fun b hb => (hF4 b hb).elim .inl (fun h => .inr (by have := hB3.size; omega))⟩
    clear hJ4 hf4 hF4 x0 x1 x2 x3
    go_wp2_with fail
    go_end0
    exact HF.out
  · have hl : listed t = [] := if_neg h0
    rw [evc_ne h0] at hC
    rw [hl]
    have HC := hidd hC
    clear hC hl hv h0
    go_enter Tryz.func42, Tryz.ntmps42
    go_wp2_with fail
    refine HC.out.mono ?_
    rintro e w2 ⟨rfl, hb3⟩
    have hB3 := hB2.trans (hb3.mono hB2.size)
    have HF : Hid (EachQ J F [] w (.returned (.tuple #[])) w2) := hidd ⟨rfl, F, hW.later _ _ _ _ hJ hB3, Fr.ob hB3, fun b hb => .inl hb⟩
    clear hb3 hB2 hb1 hb2 hJ ht hE
    go_wp2_with fail
    go_end0
    exact HF.out
end Go.Proofs.YtoemahhpheobkaaGreatDoor

namespace Go.Proofs.YtoemahhpheobkaaGreatDoor
open Go.RowKit Go.Shelf
end Go.Proofs.YtoemahhpheobkaaGreatDoor

namespace Go.Proofs.YtoemahhpheobkaaGreatDoor
open Go.RowKit Go.Shelf

theorem infoTx : (Tryz.prog.info? 9).map (fun i => (i.zero, i.size, i.bytes)) = some (some (.string ⟨#[]⟩), 1, 16) := by kernel_rfl
/-- The paths of files. -/
def fileL {α : Type} (l : List (It α)) : List ByteArray := (l.filter fun x => decide (x.n.kind = kFile)).map fun x => pathOf x.path
theorem fileL_yes {α : Type} (l : List (It α)) (x : It α) (h : x.n.kind = kFile) : fileL (l ++ [x]) = fileL l ++ [pathOf x.path] := by simp [fileL, h]
theorem fileL_no {α : Type} (l : List (It α)) (x : It α) (h : ¬ x.n.kind = kFile) : fileL (l ++ [x]) = fileL l := by simp [fileL, h]
theorem fileL_le {α : Type} (l : List (It α)) : (fileL l).length ≤ l.length := by
  unfold fileL; rw [List.length_map]; exact List.length_filter_le _ _
/-- Files' variable. -/
def FlJ (c : Nat) (F : Nat → Prop) (l : List (It Value)) (W : World) : Prop :=
  ∃ v, Blk W c [v] 49 ∧ Ow (fun g => c < g) W 9 1 v (fileL l).length (tcells (fileL l)) ∧ ∀ b, F b ↔ b = c ∨ v.ownBlock = some b

set_option maxRecDepth 100000 in
set_option maxHeartbeats 4000000 in
theorem walkFl (c : Nat) : WalkFiles c (FlJ c) where
  own := fun F l W h b hb => by
    obtain ⟨v, h1, h2, h3⟩ := h
    rcases (h3 b).1 hb with rfl | hb
    · exact h1.lt
    · exact (h2.blk b hb).2
  later := fun F l W W' h hb => by
    obtain ⟨v, h1, h2, h3⟩ := h
    exact ⟨v, h1.below hb h1.lt, h2.ob hb, h3⟩
  step := fun F l x W h hl hp hx => by
    obtain ⟨i0, hi, hz0, hz1, hz2⟩ := info_parts infoTx
    obtain ⟨a, cap, hv⟩ := hx.shape
    obtain ⟨v, hb, ho, hF⟩ := h
    obtain ⟨va, vc, rfl⟩ := ho.shape
    have hlt := hb.lt
    have h1 := hb.alloc (.cells #[.string x.n.kind, .string x.n.data, .bool x.n.exec, .slice a x.n.kids.length cap] 32)
    have hc := h1.cell (i := 0) rfl
    have hf := h1.frozen 0
    have ho1 := ho.alloc (.cells #[.string x.n.kind, .string x.n.data, .bool x.n.exec, .slice a x.n.kids.length cap] 32)
    unfold nval
    rw [hv]
    by_cases hk : x.n.kind = kFile
    · have q1 : (x.n.kind.toList == [102, 105, 108, 101]) = true := by rw [hk, kFile_list]; rfl
      have hfy := fileL_yes l x hk
      have hfl := fileL_le l
      have hfr0 : Fr F W (W.alloc (.cells #[.string x.n.kind, .string x.n.data, .bool x.n.exec, .slice a x.n.kids.length cap] 32)) := (Fr.refl F W).alloc _
      have hz : (W.alloc (.cells #[.string x.n.kind, .string x.n.data, .bool x.n.exec, .slice a x.n.kids.length cap] 32)).heap.size = W.heap.size + 1 := by simp
      have hbo := ho.blk
      have hnl : (fileL l).length ≤ 1000 := by omega
      have HFY := hidd hfy
      have hs1 := Src.new (P := Tryz.prog) (size := 1) (tx := 49) Tryz.underlying49 (W.alloc (.cells #[.string x.n.kind, .string x.n.data, .bool x.n.exec, .slice a x.n.kids.length cap] 32)) (W.heap.size + 1) hz.symm [.string (pathOf x.path)] 9 rfl (by intro u hu; simp at hu; subst hu; rfl) 1
      have ho2 := ho1.self.mono (F' := fun g => c < g ∧ ((Value.slice va (fileL l).length vc).ownBlock = some g ∨ W.heap.size ≤ g)) (fun g hg => ⟨(hbo g hg).1, .inl hg⟩)
      have h2 := h1.alloc (.cells #[.string (pathOf x.path)] 9)
      have hnc : some c ≠ (Value.slice va (fileL l).length vc).ownBlock := fun e => by have := (hbo c e.symm).1; omega
      obtain ⟨N, hN⟩ : ∃ N, (fileL l).length = N := ⟨_, rfl⟩
      obtain ⟨T, hT⟩ : ∃ T, tcells (fileL l) = T := ⟨_, rfl⟩
      have HN := hidd hN
      have HT := hidd hT
      rw [hN] at ho2 hb hc h1 h2 hnc hnl hF hbo
      rw [hT] at ho2
      generalize pathOf x.path = px at *
      clear hN hT hfy ho ho1 hv hp hx hk hfl
      go_enter Tryz.func43, Tryz.ntmps43
      go_wp2_with (at_builtin; refine wpList_append_ow _ rfl _ _ 49 49 rfl (fun g => c < g ∧ ((Value.slice va N vc).ownBlock = some g ∨ W.heap.size ≤ g)) ?cF 9 i0 _ 1 16 Tryz.underlying49 hi hz0 hz1 hz2 rfl (by decide) _ _ _ rfl (ho2.alloc _) _ _ _ rfl hs1 ?c3 ?c4 ?_)
      case cF => intro g hg; simp at hg; exact ⟨by omega, .inr (by omega)⟩
      case c3 => unfold maxLen; omega
      case c4 => omega
      intro v3 w3 ho3 hg3
      have hfr3 : Fr F W w3 := ((hfr0.alloc _)).grown hg3 (fun k hk => .inl ((hF k).2 (.inr hk)))
      have hc3 : Blk w3 c [.slice va N vc] 49 := h2.grown hg3 hnc
      have hcc := hc3.cell (i := 0) rfl
      have hcf := hc3.frozen 0
      obtain ⟨v3a, v3c, rfl⟩ := ho3.shape
      have hb3 := ho3.blk
      have HP : Hid (∃ F', FlJ c F' (l ++ [x]) (w3.setCell ⟨c, 0, none⟩ (.slice v3a (N + 1) v3c)) ∧ Fr F W (w3.setCell ⟨c, 0, none⟩ (.slice v3a (N + 1) v3c)) ∧ ∀ b, F' b → F b ∨ W.heap.size ≤ b) := hidd
        ⟨fun b => b = c ∨ (Value.slice v3a (N + 1) v3c).ownBlock = some b, ⟨_, hc3.set 0 _, by
          rw [HFY.out, List.length_append, HN.out, show tcells (fileL l ++ [px]) = T ++ [.string px] by rw [← HT.out]; simp [tcells]]
          exact (ho3.set (a := ⟨c, 0, none⟩) (fun e => Nat.lt_irrefl _ e.1) _).mono (fun g hg => hg.1), fun b => Iff.rfl⟩,
          hfr3.setCell (p := ⟨c, 0, none⟩) (.inl ((hF c).2 (.inl rfl))) _, fun b hb => by
            rcases hb with rfl | hb
            · exact .inl ((hF _).2 (.inl rfl))
            · rcases (hb3 b hb).1.2 with h | h
              · exact .inl ((hF b).2 (.inr h))
              · exact .inr h⟩
      clear hg3 ho3 hfr3 hc3 hs1 ho2 h2 h1
      go_wp2_with fail
      go_end0
      exact ⟨rfl, HP.out⟩
    · have q1 : (x.n.kind.toList == [102, 105, 108, 101]) = false := by rw [← kFile_list]; exact beq_str hk
      have HP : Hid (∃ F', FlJ c F' (l ++ [x]) (W.alloc (.cells #[.string x.n.kind, .string x.n.data, .bool x.n.exec, .slice a x.n.kids.length cap] 32)) ∧ Fr F W (W.alloc (.cells #[.string x.n.kind, .string x.n.data, .bool x.n.exec, .slice a x.n.kids.length cap] 32)) ∧ ∀ b, F' b → F b ∨ W.heap.size ≤ b) := hidd
        ⟨F, ⟨_, h1, by rw [fileL_no l x hk]; exact ho1, hF⟩, (Fr.refl F W).alloc _, fun b hb => .inl hb⟩
      clear h1 hv hp hx hk hb ho ho1 hF
      go_enter Tryz.func43, Tryz.ntmps43
      go_wp2_with fail
      go_end0
      exact ⟨rfl, HP.out⟩

/-- What Files gives. -/
def FilesP (l : List ByteArray) (w : World) (e : Ending) (w' : World) : Prop :=
  ∃ v, e = .returned v ∧ Ow (fun g => w.heap.size ≤ g) w' 9 1 v l.length (tcells l) ∧ Below w.heap.size w w'
set_option maxRecDepth 100000 in
theorem files_any (E : Nat → Addr) (B : Nat) (t : Lt) (w : World) (ht : t.Ok w) (hE : Env fuGs B w E) :
    Calls Tryz.prog 16 #[nval t] w (FilesP (fileL (listed t)) w) := by
  obtain ⟨a, cap, hv⟩ := ht.shape
  have hB2 : Below w.heap.size w ((w.alloc (.cells #[.string t.kind, .string t.data, .bool t.exec, .slice a t.kids.length cap] 32)).alloc (.cells #[.slice none 0 0] 49)) := ((Below.refl _ _).alloc (Nat.le_refl _) _).alloc (by simp) _
  have hb2 := Blk.new (w.alloc (.cells #[.string t.kind, .string t.data, .bool t.exec, .slice a t.kids.length cap] 32)) [.slice none 0 0] 49
  rw [show (w.alloc (.cells #[.string t.kind, .string t.data, .bool t.exec, .slice a t.kids.length cap] 32)).heap.size = w.heap.size + 1 by simp] at hb2
  have hC := eachFiles (w.heap.size + 1) (FlJ (w.heap.size + 1)) (walkFl _) E B t (fun b => b = w.heap.size + 1) _ (ht.ob hB2) (in_mono (fun b hb h => by omega) t (ok_in t ht)) (hE.ob hB2) ⟨_, hb2, Ow.nil _ _ _ _, fun b => ⟨.inl, fun h => h.elim id (fun h => by simp [Value.ownBlock] at h)⟩⟩
  unfold nval at hC ⊢
  rw [hv] at hC ⊢
  have HC := hidd hC
  clear hC hv ht hE hb2
  obtain ⟨L, hL⟩ : ∃ L, listed t = L := ⟨_, rfl⟩
  rw [hL] at HC ⊢
  clear hL
  go_enter Tryz.func16, Tryz.ntmps16
  go_wp2_with fail
  refine HC.out.mono ?_
  rintro e w2 ⟨rfl, F', ⟨v, hF1, hF2, hF3⟩, hf, hFF⟩
  have hB := hB2.trans (hf.below (B := w.heap.size) (by simp; omega) (fun b hb => by omega))
  have hc := hF1.cell (i := 0) rfl
  have HO := hidd (hF2.mono (F' := fun g => w.heap.size ≤ g) (fun g hg => by omega))
  obtain ⟨va, vc, rfl⟩ := hF2.shape
  clear hf hFF hF1 hF2 hF3
  go_wp2_with fail
  go_ret
  exact ⟨_, rfl, HO.out, hB⟩
end Go.Proofs.YtoemahhpheobkaaGreatDoor

namespace Go.Proofs.YtoemahhpheobkaaGreatDoor
open Go.RowKit Go.Shelf
section
variable {α : Type}
theorem scan_zero_app {l r : List (It α)} {c : Nat} (h : scan c (l ++ r) = 0) : scan c l = 0 ∧ scan (c + l.length) r = 0 := by
  rw [scan_app] at h
  by_cases h0 : scan c l = 0
  · rw [if_pos h0] at h; exact ⟨h0, h⟩
  · rw [if_neg h0] at h; exact absurd h h0
theorem scan_zero_cons {x : It α} {r : List (It α)} {c : Nat} (h : scan c (x :: r) = 0) : x.deep ≤ 8 ∧ c < 200 ∧ ownE x.n = 0 ∧ scan (c + 1) r = 0 := by
  rw [scan] at h
  split at h; omega
  split at h; omega
  split at h; omega
  exact ⟨by omega, by omega, by omega, h⟩
theorem scan_cons_zero {x : It α} {r : List (It α)} {c : Nat} (h1 : x.deep ≤ 8) (h2 : c < 200) (h3 : ownE x.n = 0) (h4 : scan (c + 1) r = 0) : scan c (x :: r) = 0 := by
  rw [scan, if_neg (by omega), if_neg (by omega), if_neg (by omega)]; exact h4
mutual
theorem scan_mono (p q : ByteArray) (d d' : Nat) (hd : d' ≤ d) : ∀ (t : Tr α) (c c' : Nat), c' ≤ c → scan c (pre p d t) = 0 → scan c' (pre q d' t) = 0
  | .mk k da e v ks => fun c c' hc h => by
    rw [pre] at h ⊢
    obtain ⟨h1, h2, h3, h4⟩ := scan_zero_cons h
    simp only at h1
    exact scan_cons_zero (by simp only; omega) (by omega) h3 (scans_mono p q (d + 1) (d' + 1) (by omega) ks (c + 1) (c' + 1) (by omega) h4)
theorem scans_mono (p q : ByteArray) (d d' : Nat) (hd : d' ≤ d) : ∀ (ks : List (ByteArray × Tr α)) (c c' : Nat), c' ≤ c → scan c (pres p d ks) = 0 → scan c' (pres q d' ks) = 0
  | [] => fun _ _ _ _ => rfl
  | (n, t) :: r => fun c c' hc h => by
    rw [pres] at h ⊢
    obtain ⟨h1, h2⟩ := scan_zero_app h
    rw [scan_app, if_pos (scan_mono (sub p n) (sub q n) d d' hd t c c' hc h1), pre_len]
    rw [pre_len] at h2
    exact scans_mono p q d d' hd r _ _ (by omega) h2
end
mutual
theorem pre_nodes (p q : ByteArray) (d d' : Nat) : ∀ t : Tr α, (pre p d t).map It.n = (pre q d' t).map It.n
  | .mk k da e v ks => by rw [pre, pre, List.map_cons, List.map_cons, pres_nodes p q (d + 1) (d' + 1) ks]
theorem pres_nodes (p q : ByteArray) (d d' : Nat) : ∀ ks : List (ByteArray × Tr α), (pres p d ks).map It.n = (pres q d' ks).map It.n
  | [] => rfl
  | (n, t) :: r => by rw [pres, pres, List.map_append, List.map_append, pre_nodes (sub p n) (sub q n) d d' t, pres_nodes p q d d' r]
end
theorem treeE_own {t : Tr α} (h : treeE t = 0) : ownE t = 0 ∧ scan 1 (pres ⟨#[]⟩ 1 t.kids) = 0 := by
  unfold treeE at h
  rw [pre_cons] at h
  obtain ⟨_, _, h3, h4⟩ := scan_zero_cons h
  exact ⟨h3, h4⟩
theorem own_names {t : Tr α} (h : ownE t = 0) : ∀ x ∈ t.kids, isName x.1 = true := by
  unfold ownE at h
  repeat (split at h; omega)
  rename_i h5 _
  have h6 : (t.kids.map (·.1)).all isName = true := by
    cases hq : (t.kids.map (·.1)).all isName with
    | true => rfl
    | false => exact absurd hq h5
  rw [List.all_map, List.all_eq_true] at h6
  exact fun x hx => h6 x hx
theorem own_leaf {t : Tr α} (h : ownE t = 0) (hk : t.kind ≠ kDir) : t.kids = [] := by
  unfold ownE at h
  split at h; omega
  split at h; omega
  rename_i h2
  have h3 : shapeB t = true := by
    cases hq : shapeB t with
    | true => rfl
    | false => exact absurd hq h2
  unfold shapeB at h3
  rw [if_neg hk] at h3
  have h4 : t.kids.length = 0 := by
    split at h3
    · exact of_decide_eq_true h3
    · simp only [Bool.and_eq_true, decide_eq_true_eq] at h3; exact h3.2
  exact List.eq_nil_of_length_eq_zero h4
theorem kid_right {t : Tr α} (h : treeE t = 0) {x : ByteArray × Tr α} (hx : x ∈ t.kids) : treeE x.2 = 0 := by
  have h2 := (treeE_own h).2
  obtain ⟨a, b, hab⟩ := List.append_of_mem hx
  rw [hab, pres_app, pres] at h2
  have h3 := (scan_zero_app (scan_zero_app h2).2).1
  exact scan_mono _ _ _ _ (by omega) _ _ _ (by omega) h3
end
section
variable {α : Type}
theorem fileSz_nodes (l : List (It α)) : fileSz l = ((l.map It.n).map fun t => if t.kind = kFile then t.data.size else 0).sum := by
  unfold fileSz; rw [List.map_map]; rfl
theorem fileN_nodes (l : List (It α)) : (fileL l).length = ((l.map It.n).filter fun t => decide (t.kind = kFile)).length := by
  unfold fileL; rw [List.length_map, List.filter_map, List.length_map]; rfl
theorem fileSz_pre (p q : ByteArray) (d d' : Nat) (t : Tr α) : fileSz (pre p d t) = fileSz (pre q d' t) := by rw [fileSz_nodes, fileSz_nodes, pre_nodes p q d d']
theorem fileN_pre (p q : ByteArray) (d d' : Nat) (t : Tr α) : (fileL (pre p d t)).length = (fileL (pre q d' t)).length := by rw [fileN_nodes, fileN_nodes, pre_nodes p q d d']
theorem fileSz_app (a b : List (It α)) : fileSz (a ++ b) = fileSz a + fileSz b := by simp [fileSz]
theorem fileL_app (a b : List (It α)) : fileL (a ++ b) = fileL a ++ fileL b := by simp [fileL]
theorem listed_of {t : Tr α} (h : treeE t = 0) : listed t = pre ⟨#[]⟩ 0 t := if_pos h
theorem listed_len {t : Tr α} (h : treeE t = 0) : (listed t).length = t.sz := by rw [listed_of h, pre_len]
theorem leaf_count {t : Tr α} (h : treeE t = 0) (hk : t.kind ≠ kDir) : (listed t).length = 1 := by
  rw [listed_len h, Tr.sz_kids, own_leaf (treeE_own h).1 hk]; rfl
theorem kid_sums {t : Tr α} (h : treeE t = 0) {k : Nat} (hk : k < t.kids.length) :
    Tr.szs (t.kids.take (k + 1)) = Tr.szs (t.kids.take k) + (listed t.kids[k].2).length ∧
    fileSz (pres ⟨#[]⟩ 1 (t.kids.take (k + 1))) = fileSz (pres ⟨#[]⟩ 1 (t.kids.take k)) + fileSz (listed t.kids[k].2) ∧
    (fileL (pres ⟨#[]⟩ 1 (t.kids.take (k + 1)))).length = (fileL (pres ⟨#[]⟩ 1 (t.kids.take k))).length + (fileL (listed t.kids[k].2)).length := by
  have hr := kid_right h (List.getElem_mem hk)
  rw [listed_len hr, listed_of hr, List.take_succ_eq_append_getElem hk]
  generalize t.kids[k] = x
  obtain ⟨n, y⟩ := x
  refine ⟨by rw [Tr.szs_app]; simp [Tr.szs], ?_, ?_⟩
  · rw [pres_app, fileSz_app, pres_one, fileSz_pre (sub ⟨#[]⟩ n) ⟨#[]⟩ 1 0]
  · rw [pres_app, fileL_app, List.length_append, pres_one, fileN_pre (sub ⟨#[]⟩ n) ⟨#[]⟩ 1 0]
theorem dir_sums {t : Tr α} (h : treeE t = 0) (hk : t.kind = kDir) :
    (listed t).length = 1 + Tr.szs t.kids ∧ fileSz (listed t) = fileSz (pres ⟨#[]⟩ 1 t.kids) ∧ (fileL (listed t)).length = (fileL (pres ⟨#[]⟩ 1 t.kids)).length := by
  have hne : ¬ kDir = kFile := by decide
  refine ⟨by rw [listed_len h, Tr.sz_kids]; omega, ?_, ?_⟩
  · rw [listed_of h, pre_cons]
    unfold fileSz
    rw [List.map_cons, List.sum_cons]
    simp only [hk, if_neg hne, Nat.zero_add]
  · rw [listed_of h, pre_cons]
    unfold fileL
    rw [List.filter_cons_of_neg (by simp only [hk, decide_eq_true_eq]; exact hne), Nat.zero_add]
theorem fileSz_le {l : List (It α)} (h : ∀ x ∈ l, x.n.data.size ≤ 2000) : fileSz l ≤ 2000 * l.length := by
  induction l with
  | nil => simp [fileSz]
  | cons x r ih =>
    have h1 := ih (fun y hy => h y (List.mem_cons_of_mem _ hy))
    have h2 := h x (List.mem_cons_self ..)
    have e : fileSz (x :: r) = (if x.n.kind = kFile then x.n.data.size else 0) + fileSz r := by simp [fileSz]
    rw [e, List.length_cons]
    split <;> omega
theorem sums_bd {t : Tr α} (hf : ∀ x ∈ pre ⟨#[]⟩ 0 t, x.n.data.size ≤ 2000) (hs : t.sz ≤ 200) (k : Nat) :
    Tr.szs (t.kids.take k) ≤ 200 ∧ fileSz (pres ⟨#[]⟩ 1 (t.kids.take k)) ≤ 400000 ∧ (fileL (pres ⟨#[]⟩ 1 (t.kids.take k))).length ≤ 200 := by
  have e := List.take_append_drop k t.kids
  have h1 := Tr.szs_app (t.kids.take k) (t.kids.drop k)
  rw [e] at h1
  have h2 := Tr.sz_kids t
  have h3 := pres_len (⟨#[]⟩ : ByteArray) 1 (t.kids.take k)
  have h4 : ∀ x ∈ pres ⟨#[]⟩ 1 (t.kids.take k), x.n.data.size ≤ 2000 := fun x hx => hf x (by
    rw [pre_cons]
    refine List.mem_cons_of_mem _ ?_
    rw [← e, pres_app]
    exact List.mem_append_left _ hx)
  have h5 := fileSz_le h4
  have h6 := fileL_le (pres (⟨#[]⟩ : ByteArray) 1 (t.kids.take k))
  refine ⟨by omega, ?_, by omega⟩
  have : 2000 * (pres (⟨#[]⟩ : ByteArray) 1 (t.kids.take k)).length ≤ 2000 * 200 := Nat.mul_le_mul_left _ (by omega)
  omega
end
end Go.Proofs.YtoemahhpheobkaaGreatDoor
