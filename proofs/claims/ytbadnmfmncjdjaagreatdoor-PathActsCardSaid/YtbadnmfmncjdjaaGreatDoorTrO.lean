/- The contract of OwnNode. Condition: the tree is there, and has few nodes. -/
import Derived.Test.YtbadnmfmncjdjaaGreatDoorTrS
import Derived.Test.YtbadnmfmncjdjaaGreatDoorTrA
namespace Go.Proofs.YtbadnmfmncjdjaaGreatDoor
open Go.RowKit

theorem infoKid : (Tryz.prog.info? 67).map (fun i => (i.zero, i.size, i.bytes)) = some (some (.agg #[.string ⟨#[]⟩, .string ⟨#[]⟩, .string ⟨#[]⟩, .bool false, .slice none 0 0]), 5, 80) := by kernel_rfl

/-- A tree of its own. -/
def OwnP (t : Lt) (w : World) (e : Ending) (w' : World) : Prop :=
  ∃ (a : Option Addr) (c : Nat) (ks : List (ByteArray × Lt)), e = .returned (.agg #[.string t.kind, .string t.data, .bool t.exec, .slice a ks.length c]) ∧
    (Tr.mk t.kind t.data t.exec (.slice a ks.length c) ks : Lt).bare = t.bare ∧ (Tr.mk t.kind t.data t.exec (.slice a ks.length c) ks : Lt).Ok w' ∧ (Tr.mk t.kind t.data t.exec (.slice a ks.length c) ks : Lt).In (fun b => w.heap.size ≤ b ∧ b < w'.heap.size) ∧ Below w.heap.size w w'

theorem own_rel {B : Nat} {wr w5 w6 w7 : World} {ls : List (ByteArray × Lt)} {v v' : Value} {k : Nat} {kid : ByteArray × Lt} {o : Obj} {T : TypeId} (hown6 : Ow (fun g => B + 2 ≤ g) w6 T 5 v k (kcells ls)) (hrl : ∀ b, v.ownBlock = some b → b < wr.heap.size)
    (hz : wr.heap.size ≤ w5.heap.size) (hz6 : w6.heap.size = w5.heap.size + 1) (hok6 : Oks w6 ls) (hin : InS (fun b => B + 2 ≤ b ∧ b < wr.heap.size ∧ v.ownBlock ≠ some b) ls)
    (hk : kid.2.Ok w6) (hki : kid.2.In (fun b => wr.heap.size ≤ b ∧ b < w5.heap.size)) (hBw : B + 2 ≤ wr.heap.size) (hg : (w6.drew.alloc o).grownBy w7 v.ownBlock)
    (hown' : Ow (fun g => w6.heap.size ≤ g ∨ v.ownBlock = some g) w7 T 5 v' (k + 1) (kcells ls ++ kcells [kid])) :
    Ow (fun g => B + 2 ≤ g) w7 T 5 v' (k + 1) (kcells (ls ++ [kid])) ∧ Oks w7 (ls ++ [kid]) ∧ InS (fun b => B + 2 ≤ b ∧ b < w7.heap.size ∧ v'.ownBlock ≠ some b) (ls ++ [kid]) ∧ Fr (fun b => v.ownBlock = some b) w6 w7 := by
  have hF : Fr (fun b => v.ownBlock = some b) w6 w7 := (((Fr.refl (fun b => v.ownBlock = some b) w6).drew).alloc o).grown hg (fun b hb => .inl hb)
  have hz7 := hF.size
  have hb' := hown'.blk
  refine ⟨?_, ?_, ?_, hF⟩
  · rw [kcells_app]
    exact hown'.mono (fun g hg => by
      rcases hg with h | h
      · omega
      · exact (hown6.blk g h).1)
  · rw [oks_iff]
    intro x hx
    rcases List.mem_append.1 hx with h | h
    · exact ok_fr hF x.2 (oks_iff.1 hok6 x h) (in_mono (fun b hb => hb.2.2) x.2 (inS_iff.1 hin x h))
    · simp only [List.mem_cons, List.not_mem_nil, or_false] at h
      subst h
      exact ok_fr hF x.2 hk (in_mono (fun b hb e => by have := hrl b e; omega) x.2 hki)
  · rw [inS_iff]
    intro x hx
    rcases List.mem_append.1 hx with h | h
    · refine in_mono (fun b hb => ⟨hb.1, by omega, fun e => ?_⟩) x.2 (inS_iff.1 hin x h)
      rcases (hb' b e).1 with h1 | h1
      · omega
      · exact hb.2.2 h1
    · simp only [List.mem_cons, List.not_mem_nil, or_false] at h
      subst h
      refine in_mono (fun b hb => ⟨by omega, by omega, fun e => ?_⟩) x.2 hki
      rcases (hb' b e).1 with h1 | h1
      · omega
      · have := hrl b h1; omega

set_option maxRecDepth 100000 in
set_option maxHeartbeats 4000000 in
theorem own_any (m : Nat) : ∀ (t : Lt) (w : World), t.sz ≤ m → m ≤ 300 → t.Ok w → Calls Tryz.prog 8 #[nval t] w (OwnP t w) := by
  induction m with
  | zero => intro t w hm; have := Tr.sz_kids t; omega
  | succ m ih =>
    intro t w hm hm3 ht
    obtain ⟨i0, hi, hz0, hz1, hz2⟩ := info_parts infoKid
    obtain ⟨ta, tc, htv⟩ := ht.shape
    have hkl : t.kids.length ≤ m := by
      have h1 := Tr.sz_kids t
      have h2 : t.kids.length ≤ Tr.szs t.kids := by
        rw [← pres_len ⟨#[]⟩ 0]
        generalize t.kids = l
        clear ih hm ht htv h1
        induction l with
        | nil => simp
        | cons x r ih => obtain ⟨n, t⟩ := x; rw [pres, List.length_append, pre_cons]; simp only [List.length_cons]; omega
      omega
    have HKA : Hid (∀ i (h : i < t.kids.length), t.kids[i].2.sz ≤ m) := hidd (fun i h => by have := Tr.sz_lt (List.getElem_mem h); omega)
    obtain ⟨kd, da, ex, va, ks⟩ := t
    simp only [Tr.v, Tr.kids] at *
    subst htv
    unfold nval
    simp only [Tr.kind, Tr.data, Tr.exec, Tr.v]
    have hq1 := (Blk.new w [.string kd, .string da, .bool ex, .slice ta ks.length tc] 24).alloc (.cells #[.string ⟨#[]⟩, .string ⟨#[]⟩, .bool false, .slice none 0 0] 24)
    have hq2 := Blk.new (w.alloc (.cells #[.string kd, .string da, .bool ex, .slice ta ks.length tc] 24)) [.string ⟨#[]⟩, .string ⟨#[]⟩, .bool false, .slice none 0 0] 24
    rw [show (w.alloc (.cells #[.string kd, .string da, .bool ex, .slice ta ks.length tc] 24)).heap.size = w.heap.size + 1 by simp] at hq2
    have hB0 : Below w.heap.size w ((w.alloc (.cells #[.string kd, .string da, .bool ex, .slice ta ks.length tc] 24)).alloc (.cells #[.string ⟨#[]⟩, .string ⟨#[]⟩, .bool false, .slice none 0 0] 24)) := ((Below.refl _ _).alloc (Nat.le_refl _) _).alloc (by simp) _
    clear hm
    go_enter Tryz.func8, Tryz.ntmps8
    go_wp2_with fail
    go_loopw [3, 4] (fun v t wr => ∃ (k : Nat) (ls : List (ByteArray × Lt)), k ≤ ks.length ∧ t = .int .i64 (k : Int) ∧ ls.length = k ∧ (∀ i (h : i < ls.length) (h' : i < ks.length), ls[i].1 = ks[i].1 ∧ ls[i].2.bare = ks[i].2.bare) ∧
        Ow (fun g => w.heap.size + 2 ≤ g) wr 67 5 v k (kcells ls) ∧ Oks wr ls ∧ InS (fun b => w.heap.size + 2 ≤ b ∧ b < wr.heap.size ∧ v.ownBlock ≠ some b) ls ∧
        Blk wr w.heap.size [.string kd, .string da, .bool ex, .slice ta ks.length tc] 24 ∧ Blk wr (w.heap.size + 1) [.string ⟨#[]⟩, .string ⟨#[]⟩, .bool false, .slice none 0 0] 24 ∧ Below w.heap.size w wr) (fun _ t _ => ks.length - (intOf t).toNat)
    case atStart => exact ⟨0, [], Nat.zero_le _, rfl, rfl, fun i h => by simp at h, Ow.nil _ _ _ _, by rw [Oks]; trivial, by rw [InS]; trivial, hq1, hq2, hB0⟩
    case round =>
      obtain ⟨k, ls, hk, rfl, hll, heq, hown, hok, hin, hb1, hb2, hbel⟩ := hrel
      obtain ⟨va, vc, rfl⟩ := hown.shape
      have hcA := hb1.cell (i := 3) rfl
      have hlt1 := hb2.lt
      by_cases hlt : k < ks.length
      · have hxs := HKA.out k hlt
        have hA := ht.ob hbel
        have hxk := hA.get hlt
        have hnm := hA.names _ (List.getElem_mem hlt)
        obtain ⟨b1, o1, rfl, hbb1, a0, a1, a2, a3, a4⟩ := hA.at5 rfl hlt
        simp only [Tr.kids] at a0 a1 a2 a3 a4 hxk hnm
        have p1 : (0 : Int) ≤ (k : Int) := by omega
        have p2 : (k : Int) < (ks.length : Int) := by omega
        obtain ⟨x, hx⟩ : ∃ x, ks[k] = x := ⟨_, rfl⟩
        have HX : Hid (ks[k] = x) := hidd hx
        rw [hx] at a0 a1 a2 a3 a4 hxk hxs hnm
        clear hx hA
        have HC := ih x.2 wr hxs (by omega) hxk
        go_wp2_with fail
        refine HC.mono ?_
        rintro e w5 ⟨xa, xc, ks', rfl, hbr, hok', hin', hb5⟩
        go_wp2_with fail
        have hn5 := Blk.new w5 [.string x.2.kind, .string x.2.data, .bool x.2.exec, .slice xa ks'.length xc] 24
        have hbA : Below wr.heap.size wr (w5.alloc (.cells #[.string x.2.kind, .string x.2.data, .bool x.2.exec, .slice xa ks'.length xc] 24)) := hb5.alloc hb5.size _
        have hown6 := (hown.ob hbA)
        have hin6 := hin
        have hok6 := oks_ob hbA ls hok
        have hb16 := hb1.below hbA hb1.lt
        have hb26 := hb2.below hbA hb2.lt
        have hcA6 := hb16.cell (i := 3) rfl
        have hcN6 := (hbA.cell (p := ⟨b1, o1 + k * 5, none⟩) hbb1).trans a0
        have d0 := hn5.cell (i := 0) rfl
        have d1 := hn5.cell (i := 1) rfl
        have d2 := hn5.cell (i := 2) rfl
        have d3 := hn5.cell (i := 3) rfl
        have hsz5 := hb5.size
        have hok6' := hok'.ob ((Below.refl w5.heap.size w5).alloc (Nat.le_refl _) (.cells #[.string x.2.kind, .string x.2.data, .bool x.2.exec, .slice xa ks'.length xc] 24))
        have hw6s : (w5.alloc (.cells #[.string x.2.kind, .string x.2.data, .bool x.2.exec, .slice xa ks'.length xc] 24)).heap.size = w5.heap.size + 1 := by simp
        have HRL : Hid (∀ b, (Value.slice va k vc).ownBlock = some b → b < wr.heap.size) := hidd (fun b hb => (hown.blk b hb).2)
        clear hn5 hown hok hb1 hb2 hcA a0 a1 a2 a3 a4 hxk ht hok' hb5 HC hin
        generalize w5.alloc (.cells #[.string x.2.kind, .string x.2.data, .bool x.2.exec, .slice xa ks'.length xc] 24) = w6 at *
        have hs1 := Src.new (P := Tryz.prog) (size := 5) (tx := 22) Tryz.underlying22 w6.drew w6.heap.size rfl [.string x.1, .string x.2.kind, .string x.2.data, .bool x.2.exec, .slice xa ks'.length xc] 67 rfl (by intro u hu; simp only [List.mem_cons, List.not_mem_nil, or_false] at hu; rcases hu with rfl | rfl | rfl | rfl | rfl <;> rfl) 1
        have hz6 := hbA.size
        go_region_law (first
          | (refine step_append_tr rfl (.tmp 20) (.tmp 29) 22 22 rfl (fun g => w6.heap.size ≤ g ∨ (Value.slice va k vc).ownBlock = some g) (fun g hg => by simp at hg; exact .inl (by omega)) 67 i0 _ 5 80 Tryz.underlying22 hi hz0 hz1 hz2 rfl (by decide) _ _ _ (by simp [Act.eval]) ((hown6.self.mono (fun g hg => .inr hg)).drew.alloc _) _ _ _ (by simp [Act.eval]) hs1 (by unfold maxLen; omega) (by omega) ?_; intro v' w7 hown' hgrow))
        all_goals
          obtain ⟨r1, r2, r3, r4⟩ := own_rel (kid := (x.1, .mk x.2.kind x.2.data x.2.exec (.slice xa ks'.length xc) ks')) hown6 HRL.out (by omega) hw6s hok6 hin6 hok6' hin' (by omega) hgrow hown'
          have HEQ : Hid (∀ i (h : i < (ls ++ [((x.1, .mk x.2.kind x.2.data x.2.exec (.slice xa ks'.length xc) ks') : ByteArray × Lt)]).length) (h' : i < ks.length), (ls ++ [((x.1, .mk x.2.kind x.2.data x.2.exec (.slice xa ks'.length xc) ks') : ByteArray × Lt)])[i].1 = ks[i].1 ∧ (ls ++ [((x.1, .mk x.2.kind x.2.data x.2.exec (.slice xa ks'.length xc) ks') : ByteArray × Lt)])[i].2.bare = ks[i].2.bare) := hidd (fun i h h' => by
            by_cases e : i < ls.length
            · rw [List.getElem_append_left e]; exact heq i e h'
            · obtain rfl : i = k := by simp at h; omega
              rw [List.getElem_append_right (by omega), HX.out]
              simp only [hll, Nat.sub_self, List.getElem_cons_zero]
              exact ⟨trivial, hbr⟩)
          have hb17 := hb16.fr r4 (fun e => by have := (hown6.blk _ e).1; omega)
          have hb27 := hb26.fr r4 (fun e => by have := (hown6.blk _ e).1; omega)
          have hbel7 : Below w.heap.size w w7 := (hbel.trans (hbA.mono hbel.size)).trans (r4.below (B := w.heap.size) (by omega) (fun b e => by have := (hown6.blk b e).1; omega))
          have HLL : Hid ((ls ++ [((x.1, .mk x.2.kind x.2.data x.2.exec (.slice xa ks'.length xc) ks') : ByteArray × Lt)]).length = k + 1) := hidd (by simp [hll])
          have H1 := hidd r1
          have H2 := hidd r2
          have H3 := hidd r3
          clear r1 r2 r3 r4 hown' hgrow hb16 hb26 hbr hok6 hok6' hin6 hin' hown6 hcA6 hcN6 d0 d1 d2 d3 hs1 heq hll
          go_wp2_with fail
          go_roundw
          case rel => exact ⟨k + 1, _, hlt, by go_num, HLL.out, HEQ.out, H1.out, H2.out, H3.out, hb17, hb27, hbel7⟩
          case measure => simp [intOf]; omega
      · have hkk : k = ks.length := by omega
        have HP : Hid ((Tr.mk kd da ex (.slice va ls.length vc) ls : Lt).bare = (Tr.mk kd da ex (.slice ta ks.length tc) ks : Lt).bare ∧ (∀ x ∈ ls, x.1.size ≤ 140737488351232) ∧ Oks wr ls ∧ InS (fun b => w.heap.size + 2 ≤ b ∧ b < wr.heap.size ∧ (Value.slice va k vc).ownBlock ≠ some b) ls) := hidd ⟨by
            rw [Tr.bare_iff]
            exact ⟨rfl, rfl, rfl, by simp only [Tr.kids]; omega, fun i h h' => heq i h h'⟩, fun x hx => by
            obtain ⟨i, hi, rfl⟩ := List.getElem_of_mem hx
            rw [(heq i hi (by omega)).1]
            exact ht.names _ (List.getElem_mem (by omega : i < ks.length)), hok, hin⟩
        have hslt : ¬ ((k : Int) < (ks.length : Int)) := by omega
        have hf3 := hb1.frozen 3
        have hs3 := hb1.set 3 (.slice va k vc)
        have hq3 := hb2.other (a := ⟨w.heap.size, 3, none⟩) (by simp) (.slice va k vc)
        have hown3 := hown.set (a := ⟨w.heap.size, 3, none⟩) (by simp) (.slice va k vc)
        have hB3 := hbel.setCell (p := ⟨w.heap.size, 3, none⟩) (Nat.le_refl _) (.slice va k vc)
        have hF3 := (Fr.refl (fun b => b = w.heap.size ∨ b = w.heap.size + 1) wr).setCell (p := ⟨w.heap.size, 3, none⟩) (.inl (.inl rfl)) (.slice va k vc)
        have HLL := hidd hll
        have HKK := hidd hkk
        clear hok hin heq hq1 hq2 hB0 ht hll hkk hbel
        generalize hw3 : wr.setCell ⟨w.heap.size, 3, none⟩ (.slice va k vc) = w3 at *
        have d0 := hs3.cell (i := 0) rfl
        have d1 := hs3.cell (i := 1) rfl
        have d2 := hs3.cell (i := 2) rfl
        have d3 := hs3.cell (i := 3) rfl
        have e0 := hq3.cell (i := 0) rfl
        have f0 := hq3.frozen 0
        have s1 := hq3.set 0 (.string kd)
        have e1 := s1.cell (i := 1) rfl
        have f1 := s1.frozen 1
        have s2 := s1.set 1 (.string da)
        have e2 := s2.cell (i := 2) rfl
        have f2 := s2.frozen 2
        have s3 := s2.set 2 (.bool ex)
        have e3 := s3.cell (i := 3) rfl
        have f3 := s3.frozen 3
        have s4 := s3.set 3 (.slice va k vc)
        have r0 := s4.cell (i := 0) rfl
        have r1 := s4.cell (i := 1) rfl
        have r2 := s4.cell (i := 2) rfl
        have r3 := s4.cell (i := 3) rfl
        go_wp2_with fail
        refine bodyPost_ret (v := .agg #[.string kd, .string da, .bool ex, .slice va k vc]) ?_ rfl ?_
        · rw [results_cell1 rfl]
          go_simp
        · have hFF := (((hF3.setCell (p := ⟨w.heap.size + 1, 0, none⟩) (.inl (.inr rfl)) (.string kd)).setCell (p := ⟨w.heap.size + 1, 1, none⟩) (.inl (.inr rfl)) (.string da)).setCell (p := ⟨w.heap.size + 1, 2, none⟩) (.inl (.inr rfl)) (.bool ex)).setCell (p := ⟨w.heap.size + 1, 3, none⟩) (.inl (.inr rfl)) (.slice va k vc)
          have hBB := (((hB3.setCell (p := ⟨w.heap.size + 1, 0, none⟩) (by simp) (.string kd)).setCell (p := ⟨w.heap.size + 1, 1, none⟩) (by simp) (.string da)).setCell (p := ⟨w.heap.size + 1, 2, none⟩) (by simp) (.bool ex)).setCell (p := ⟨w.heap.size + 1, 3, none⟩) (by simp) (.slice va k vc)
          have hOO := (((hown3.set (a := ⟨w.heap.size + 1, 0, none⟩) (by simp) (.string kd)).set (a := ⟨w.heap.size + 1, 1, none⟩) (by simp) (.string da)).set (a := ⟨w.heap.size + 1, 2, none⟩) (by simp) (.bool ex)).set (a := ⟨w.heap.size + 1, 3, none⟩) (by simp) (.slice va k vc)
          obtain ⟨h1, h2, h3, h4⟩ := HP.out
          have hsF := hFF.size
          refine ⟨va, vc, ls, by simp only [Tr.kind, Tr.data, Tr.exec]; rw [HLL.out], h1, ?_, ?_, hBB⟩
          · refine Tr.Ok.mk' ?_ h2 (oks_iff.1 (oks_fr hFF ls h3 (inS_mono (fun b hb e => by omega) ls h4)))
            simp only [Tr.v, Tr.kids]
            have := hOO.sl
            rw [HLL.out]; exact this
          · rw [Tr.In]
            refine ⟨fun _ b hb => ?_, inS_mono (fun b hb => by omega) ls h4⟩
            have hb2 := hOO.blk b (by rw [HLL.out] at hb; exact hb)
            exact ⟨by omega, hb2.2⟩
end Go.Proofs.YtbadnmfmncjdjaaGreatDoor
