/- Dirs: bare and filled trees. Condition: the trees are there. · Dirs: filled trees and Get. Condition: the dirs are there. -/
import Derived.Test.YtoemahhpheobkaaGreatDoorDiB
import Derived.Test.YtoemahhpheobkaaGreatDoorPaK
namespace Go.Proofs.YtoemahhpheobkaaGreatDoor
open Go.RowKit Go.Shelf

/-- A node's bytes in a bare tree. -/
def bd (t : Lt) : ByteArray := if t.kind = kFile then ⟨#[]⟩ else t.data
/-- A tree of its own whose files have no bytes. -/
def BareP (t : Lt) (w : World) (e : Ending) (w' : World) : Prop :=
  ∃ (a : Option Addr) (c : Nat) (ks : List (ByteArray × Lt)), e = .returned (.agg #[.string t.kind, .string (bd t), .bool t.exec, .slice a ks.length c]) ∧
    (Tr.mk t.kind (bd t) t.exec (.slice a ks.length c) ks : Lt).bare = bareT t.bare ∧ (Tr.mk t.kind (bd t) t.exec (.slice a ks.length c) ks : Lt).Ok w' ∧ (Tr.mk t.kind (bd t) t.exec (.slice a ks.length c) ks : Lt).In (fun b => w.heap.size ≤ b ∧ b < w'.heap.size) ∧ Below w.heap.size w w'

def BareQ (kd da' : ByteArray) (ex : Bool) (v : Value) (ks0 : List (ByteArray × Lt)) (da : ByteArray) (w : World) (e : Ending) (w' : World) : Prop :=
  ∃ (a : Option Addr) (c : Nat) (ks : List (ByteArray × Lt)), e = .returned (.agg #[.string kd, .string da', .bool ex, .slice a ks.length c]) ∧
    (Tr.mk kd da' ex (.slice a ks.length c) ks : Lt).bare = bareT (Tr.mk kd da ex v ks0 : Lt).bare ∧ (Tr.mk kd da' ex (.slice a ks.length c) ks : Lt).Ok w' ∧ (Tr.mk kd da' ex (.slice a ks.length c) ks : Lt).In (fun b => w.heap.size ≤ b ∧ b < w'.heap.size) ∧ Below w.heap.size w w'

set_option maxRecDepth 100000 in
set_option maxHeartbeats 4000000 in
theorem bare_any (m : Nat) : ∀ (t : Lt) (w : World), t.sz ≤ m → m ≤ 300 → t.Ok w → Calls Tryz.prog 33 #[nval t] w (BareP t w) := by
  induction m with
  | zero => intro t w hm; have := Tr.sz_kids t; omega
  | succ m ih =>
    intro t w hm hm3 ht
    obtain ⟨ta, tc, htv⟩ := ht.shape
    have hkl : t.kids.length ≤ m := by
      have h1 := Tr.sz_kids t
      have h2 : t.kids.length ≤ Tr.szs t.kids := by
        rw [← pres_len ⟨#[]⟩ 0]
        generalize t.kids = l
        clear ih hm ht htv h1
        induction l with
        | nil => simp
        | cons x r ih => obtain ⟨n, t⟩ := x; rw [pres, List.length_append, pre_cons]; simp only [List.length_cons]; omega
      omega
    have HKA : Hid (∀ i (h : i < t.kids.length), t.kids[i].2.sz ≤ m) := hidd (fun i h => by have := Tr.sz_lt (List.getElem_mem h); omega)
    obtain ⟨kd, da, ex, va, ks⟩ := t
    simp only [Tr.v, Tr.kids] at htv hkl HKA
    subst htv
    obtain ⟨da', hda⟩ : ∃ d, d = (if kd = kFile then (⟨#[]⟩ : ByteArray) else da) := ⟨_, rfl⟩
    rw [show BareP (.mk kd da ex (.slice ta ks.length tc) ks) w = BareQ kd da' ex (.slice ta ks.length tc) ks da w by funext e w'; rw [hda]; rfl]
    have hB0 : Below w.heap.size w ((w.alloc (.cells #[.string kd, .string da, .bool ex, .slice ta ks.length tc] 32)).alloc (.cells #[.string ⟨#[]⟩, .string ⟨#[]⟩, .bool false, .slice none 0 0] 32)) := ((Below.refl _ _).alloc (Nat.le_refl _) _).alloc (by simp) _
    have hq1 := Blk.new w [.string kd, .string da, .bool ex, .slice ta ks.length tc] 32
    have hq2 := Blk.new (w.alloc (.cells #[.string kd, .string da, .bool ex, .slice ta ks.length tc] 32)) [.string ⟨#[]⟩, .string ⟨#[]⟩, .bool false, .slice none 0 0] 32
    rw [show (w.alloc (.cells #[.string kd, .string da, .bool ex, .slice ta ks.length tc] 32)).heap.size = w.heap.size + 1 by simp] at hq2
    have hq1' := hq1.alloc (.cells #[.string ⟨#[]⟩, .string ⟨#[]⟩, .bool false, .slice none 0 0] 32)
    have hsz0 : ((w.alloc (.cells #[.string kd, .string da, .bool ex, .slice ta ks.length tc] 32)).alloc (.cells #[.string ⟨#[]⟩, .string ⟨#[]⟩, .bool false, .slice none 0 0] 32)).heap.size = w.heap.size + 2 := by simp
    have HCL := hidd (fun W (hW : Below w.heap.size w W) (hz : W.heap.size = w.heap.size + 2) => by
      have ht0 := ht.ob hW
      have hsl0 := ht0.sl
      have hoks0 : Oks _ ks := oks_iff.2 (fun x hx => ht0.kid (x := x) hx)
      simp only [Tr.v, Tr.kids] at hsl0
      have := clone_kids _ ks _ hsl0 hoks0 (by omega)
      rw [hz] at this
      exact this)
    unfold nval
    simp only [Tr.kind, Tr.data, Tr.exec, Tr.v]
    have fz := hq1'.frozen 1
    have fc := hq1'.cell (i := 1) rfl
    have k0 := hq1'.cell (i := 0) rfl
    clear hq1 hm
    rcases Bool.eq_false_or_eq_true (kd.toList == [102, 105, 108, 101]) with q1 | q1
    case' inl =>
      have hkk : kd = kFile := by
        have h1 : kd.toList = [102, 105, 108, 101] := by simpa using q1
        rw [← kFile_list, Lib.toList_data, Lib.toList_data] at h1
        exact toList_inj h1
      have Y1 := (Blk.new w [.string kd, .string ⟨#[]⟩, .bool ex, .slice ta ks.length tc] 32).alloc (.cells #[.string ⟨#[]⟩, .string ⟨#[]⟩, .bool false, .slice none 0 0] 32)
      have Y2 := Blk.new (w.alloc (.cells #[.string kd, .string ⟨#[]⟩, .bool ex, .slice ta ks.length tc] 32)) [.string ⟨#[]⟩, .string ⟨#[]⟩, .bool false, .slice none 0 0] 32
      rw [show (w.alloc (.cells #[.string kd, .string ⟨#[]⟩, .bool ex, .slice ta ks.length tc] 32)).heap.size = w.heap.size + 1 by simp] at Y2
      have X1 : Hid (Blk ((w.alloc (.cells #[.string kd, .string ⟨#[]⟩, .bool ex, .slice ta ks.length tc] 32)).alloc (.cells #[.string ⟨#[]⟩, .string ⟨#[]⟩, .bool false, .slice none 0 0] 32)) w.heap.size [.string kd, .string da', .bool ex, .slice ta ks.length tc] 32) := hidd (by rw [hda, if_pos hkk]; exact Y1)
      have X2 := hidd Y2
      have X3 : Hid (Below w.heap.size w ((w.alloc (.cells #[.string kd, .string ⟨#[]⟩, .bool ex, .slice ta ks.length tc] 32)).alloc (.cells #[.string ⟨#[]⟩, .string ⟨#[]⟩, .bool false, .slice none 0 0] 32))) := hidd (((Below.refl _ _).alloc (Nat.le_refl _) _).alloc (by simp) _)
      have X4 : Hid (((w.alloc (.cells #[.string kd, .string ⟨#[]⟩, .bool ex, .slice ta ks.length tc] 32)).alloc (.cells #[.string ⟨#[]⟩, .string ⟨#[]⟩, .bool false, .slice none 0 0] 32)).heap.size = w.heap.size + 2) := hidd (by simp)
      clear Y1 Y2
      have HDA := hidd hda
      clear hB0 hq1' hq2 hsz0 hkk hda
      go_enter Tryz.func33, Tryz.ntmps33
      go_upto_region 3 with fail
      generalize (w.alloc (.cells #[.string kd, .string ⟨#[]⟩, .bool ex, .slice ta ks.length tc] 32)).alloc (.cells #[.string ⟨#[]⟩, .string ⟨#[]⟩, .bool false, .slice none 0 0] 32) = w1 at *
      clear fz fc k0 q1
    case' inr =>
      have hkk : kd ≠ kFile := by
        rintro rfl
        rw [kFile_list] at q1
        cases q1
      have HDA := hidd hda
      have X1 : Hid (Blk ((w.alloc (.cells #[.string kd, .string da, .bool ex, .slice ta ks.length tc] 32)).alloc (.cells #[.string ⟨#[]⟩, .string ⟨#[]⟩, .bool false, .slice none 0 0] 32)) w.heap.size [.string kd, .string da', .bool ex, .slice ta ks.length tc] 32) := hidd (by rw [hda, if_neg hkk]; exact hq1')
      have X2 := hidd hq2
      have X3 := hidd hB0
      have X4 := hidd hsz0
      clear hkk hda fz fc hq1' hq2 hB0 hsz0
      go_enter Tryz.func33, Tryz.ntmps33
      go_upto_region 3 with fail
      generalize (w.alloc (.cells #[.string kd, .string da, .bool ex, .slice ta ks.length tc] 32)).alloc (.cells #[.string ⟨#[]⟩, .string ⟨#[]⟩, .bool false, .slice none 0 0] 32) = w1 at *
      clear k0 q1
    all_goals
      have hq1 := X1.out
      have hq2 := X2.out
      have hB0 := X3.out
      have hz1 := X4.out
      have p3 := hq1.cell (i := 3) rfl
      clear X1 X2 X3 X4
      go_wp2_with fail
      refine (HCL.out w1 hB0 hz1).mono ?_
      rintro e w2 ⟨a2, c2, rfl, hown, hb2⟩
      have hb2' : Below w.heap.size w w2 := hB0.trans (hb2.mono (by omega))
      have hown : Ow (fun g => w.heap.size + 2 ≤ g) w2 85 5 (.slice a2 ks.length c2) ks.length (kcells ks) := hown.mono (fun g hg => by omega)
      have hk1 := hq1.below hb2 (by omega)
      have hk2 := hq2.below hb2 (by omega)
      have f3 := hk1.frozen 3
      have hk1s := hk1.set 3 (.slice a2 ks.length c2)
      have hk2s := hk2.other (a := ⟨w.heap.size, 3, none⟩) (by simp) (.slice a2 ks.length c2)
      have howns := hown.set (a := ⟨w.heap.size, 3, none⟩) (by simp) (.slice a2 ks.length c2)
      have hb3 := hb2'.setCell (p := ⟨w.heap.size, 3, none⟩) (Nat.le_refl _) (.slice a2 ks.length c2)
      have x3 := hk1.cell (i := 3) rfl
      have z3 := hk1s.cell (i := 3) rfl
      clear hk1 hk2 hown hb2' hb2 hB0 hq1 hq2 HCL hz1 p3
      go_wp2_with fail
      clear x3 z3 f3
      go_loopw [3, 15] (fun _ t wr => ∃ (k : Nat) (ls : List (ByteArray × Lt)), k ≤ ks.length ∧ t = .int .i64 (k : Int) ∧ ls.length = k ∧ (∀ i (h : i < ls.length) (h' : i < ks.length), ls[i].1 = ks[i].1 ∧ ls[i].2.bare = bareT ks[i].2.bare) ∧
          Ow (fun g => w.heap.size + 2 ≤ g) wr 85 5 (.slice a2 ks.length c2) ks.length (kcells (ls ++ ks.drop k)) ∧ Oks wr ls ∧ InS (fun b => w.heap.size + 2 ≤ b ∧ b < wr.heap.size ∧ (Value.slice a2 ks.length c2).ownBlock ≠ some b) ls ∧
          Blk wr w.heap.size [.string kd, .string da', .bool ex, .slice a2 ks.length c2] 32 ∧ Blk wr (w.heap.size + 1) [.string ⟨#[]⟩, .string ⟨#[]⟩, .bool false, .slice none 0 0] 32 ∧ Below w.heap.size w wr) (fun _ t _ => ks.length - (intOf t).toNat)
      case atStart => exact ⟨0, [], Nat.zero_le _, rfl, rfl, fun i h => by simp at h, howns, by rw [Oks]; trivial, by rw [InS]; trivial, hk1s, hk2s, hb3⟩
      case round =>
        obtain ⟨k, ls, hk, rfl, hll, heq, hown, hok, hin, hb1, hb2, hbel⟩ := hrel
        have hcA := hb1.cell (i := 3) rfl
        clear hk1s hk2s howns hb3
        by_cases hlt : k < ks.length
        · have hxs := HKA.out k hlt
          have hxk := (ht.ob hbel).get hlt
          have hnm := ht.names _ (List.getElem_mem hlt)
          have hsl := hown.sl
          have hlen : (ls ++ ks.drop k).length = ks.length := by rw [List.length_append, List.length_drop]; omega
          have hdk : ks.drop k = ks[k] :: ks.drop (k + 1) := by rw [List.getElem_cons_drop]
          obtain ⟨g, off, rfl, hgl, a0, a1, a2, a3, a4⟩ := sl_at5 (l := ls ++ ks.drop k) (by rw [hlen]; exact hsl) (i := k) (by rw [hlen]; exact hlt)
          have hgk : (ls ++ ks.drop k)[k]'(by rw [hlen]; exact hlt) = ks[k] := by
            rw [List.getElem_append_right (by omega)]
            simp only [hll, Nat.sub_self]
            simp
          rw [hgk] at a0 a1 a2 a3 a4
          simp only [Tr.kids] at hxk hnm
          have p1 : (0 : Int) ≤ (k : Int) := by omega
          have p2 : (k : Int) < (ks.length : Int) := by omega
          obtain ⟨x, hx⟩ : ∃ x, ks[k] = x := ⟨_, rfl⟩
          have HX : Hid (ks[k] = x) := hidd hx
          rw [hx] at a0 a1 a2 a3 a4 hxk hxs hnm hdk
          obtain ⟨ya, yc, hyv⟩ := hxk.shape
          have HC := ih x.2 wr.drew hxs (by omega) (hxk.ob ((Below.refl _ _).drew))
          obtain ⟨nx, ⟨kx, dx, ex', vx, ksx⟩⟩ := x
          simp only [Tr.v, Tr.kids, Tr.kind, Tr.data, Tr.exec] at hyv a1 a2 a3 a4
          subst hyv
          unfold nval at HC
          rw [show BareP (.mk kx dx ex' (.slice ya ksx.length yc) ksx) wr.drew = BareQ kx (if kx = kFile then ⟨#[]⟩ else dx) ex' (.slice ya ksx.length yc) ksx dx wr.drew from rfl] at HC
          simp only [Tr.v, Tr.kind, Tr.data, Tr.exec] at HC
          generalize (if kx = kFile then (⟨#[]⟩ : ByteArray) else dx) = dx' at HC
          have HCH := hidd HC
          have HDK := hidd hdk
          have hfz := fun j => hown.frozenT j
          have HFZ : Hid (∀ W, Below wr.heap.size wr.drew W → ∀ j, W.frozen? ⟨g, j, none⟩ = false) := hidd (fun W hb j => (hown.drew.ob hb).frozenT j)
          have HB1 : Hid (∀ W, Below wr.heap.size wr.drew W → W.cell? ⟨w.heap.size, 3, none⟩ = some (.slice (some ⟨g, off, none⟩) ks.length c2)) := hidd (fun W hb => (hb1.drew.below hb hb1.lt).cell (i := 3) rfl)
          have HA : Hid (∀ W, Below wr.heap.size wr.drew W → W.cell? ⟨g, off + k * 5 + 1, none⟩ = some (.string kx) ∧ W.cell? ⟨g, off + k * 5 + 2, none⟩ = some (.string dx) ∧ W.cell? ⟨g, off + k * 5 + 3, none⟩ = some (.bool ex') ∧ W.cell? ⟨g, off + k * 5 + 4, none⟩ = some (.slice ya ksx.length yc)) := hidd (fun W hb =>
            ⟨(hb.cell (p := ⟨g, _, none⟩) hgl).trans a1, (hb.cell (p := ⟨g, _, none⟩) hgl).trans a2, (hb.cell (p := ⟨g, _, none⟩) hgl).trans a3, (hb.cell (p := ⟨g, _, none⟩) hgl).trans a4⟩)
          clear hx hdk hgk hsl hlen HC hnm hfz hxk hgl
          go_wp2_with fail
          go_region_law (first
            | (go_simp; go_at_call 33; (with_reducible refine HCH.out.mono ?_); rintro e w5 ⟨xa, xc, ks', rfl, hbr, hok', hin', hb5⟩; have hb5x : Below wr.heap.size wr w5 := (Below.refl _ _).drew.trans hb5; have q3 := HB1.out w5 hb5; have z1 := HFZ.out w5 hb5 (off + k * 5 + 1); have z2 := HFZ.out w5 hb5 (off + k * 5 + 2); have z3 := HFZ.out w5 hb5 (off + k * 5 + 3); have z4 := HFZ.out w5 hb5 (off + k * 5 + 4); obtain ⟨r1, r2, r3, r4⟩ := HA.out w5 hb5))
          all_goals
            obtain ⟨r1, r2, r3, r4, r5⟩ := copy_rel (nx := nx) (rest := ks.drop (k + 1)) (y := .mk kx dx ex' (.slice ya ksx.length yc) ksx) (by rw [HDK.out] at hown; exact hown) hll hok hin hb5x hok' hin'
            have HEQ : Hid (∀ i (h : i < (ls ++ [((nx, .mk kx dx' ex' (.slice xa ks'.length xc) ks') : ByteArray × Lt)]).length) (h' : i < ks.length), (ls ++ [((nx, .mk kx dx' ex' (.slice xa ks'.length xc) ks') : ByteArray × Lt)])[i].1 = ks[i].1 ∧ (ls ++ [((nx, .mk kx dx' ex' (.slice xa ks'.length xc) ks') : ByteArray × Lt)])[i].2.bare = bareT ks[i].2.bare) := hidd (fun i h h' => by
              by_cases e : i < ls.length
              · rw [List.getElem_append_left e]; exact heq i e h'
              · obtain rfl : i = k := by simp at h; omega
                rw [List.getElem_append_right (by omega), HX.out]
                simp only [hll, Nat.sub_self, List.getElem_cons_zero]
                exact ⟨trivial, hbr⟩)
            have hb17 := hb1.fr r4 (by omega)
            have hb27 := hb2.fr r4 (by omega)
            have hbel7 : Below w.heap.size w (put4 w5 g (off + k * 5) kx dx' ex' (.slice xa ks'.length xc)) := hbel.trans (r4.below hbel.size (fun b e => by omega))
            have HLL : Hid ((ls ++ [((nx, .mk kx dx' ex' (.slice xa ks'.length xc) ks') : ByteArray × Lt)]).length = k + 1) := hidd (by simp [hll])
            unfold put4 at r1 r2 r3 hb17 hb27 hbel7
            have H1 := hidd r1
            have H2 := hidd r2
            have H3 := hidd r3
            clear hb1 hb2 hcA a0 a1 a2 a3 a4
            go_wp2_with fail
            go_roundw
            case rel => exact ⟨k + 1, _, hlt, by go_num, HLL.out, HEQ.out, H1.out, H2.out, H3.out, hb17, hb27, hbel7⟩
            case measure => simp [intOf]; omega
        · have hkk : k = ks.length := by omega
          have HP : Hid ((Tr.mk kd da' ex (.slice a2 ls.length c2) ls : Lt).bare = bareT (Tr.mk kd da ex (.slice ta ks.length tc) ks : Lt).bare ∧ (∀ x ∈ ls, x.1.size ≤ 140737488351232) ∧ Oks wr ls ∧ InS (fun b => w.heap.size + 2 ≤ b ∧ b < wr.heap.size ∧ (Value.slice a2 ks.length c2).ownBlock ≠ some b) ls) := hidd ⟨by
              rw [show bareT (Tr.mk kd da ex (.slice ta ks.length tc) ks : Lt).bare = (bareT (Tr.mk kd da ex (.slice ta ks.length tc) ks : Lt)).bare from bareT_map _ _, bareT, ← HDA.out, Tr.bare_iff]
              refine ⟨rfl, rfl, rfl, by simp only [Tr.kids, bareTs_eq, List.length_map]; omega, fun i h h' => ?_⟩
              simp only [Tr.kids, bareTs_eq, List.length_map] at h h'
              simp only [Tr.kids, bareTs_eq, List.getElem_map]
              have h8 := heq i h h'
              exact ⟨h8.1, h8.2.trans (bareT_map _ _)⟩, fun x hx => by
              obtain ⟨i, hi, rfl⟩ := List.getElem_of_mem hx
              rw [(heq i hi (by omega)).1]
              exact ht.names _ (List.getElem_mem (by omega : i < ks.length)), hok, hin⟩
          have hslt : ¬ ((k : Int) < (ks.length : Int)) := by omega
          have hon : Ow (fun g => w.heap.size + 2 ≤ g) wr 85 5 (.slice a2 ks.length c2) ks.length (kcells ls) := by
            rw [hkk, List.drop_of_length_le (Nat.le_refl _), List.append_nil] at hown; exact hown
          have d0 := hb1.cell (i := 0) rfl
          have d1 := hb1.cell (i := 1) rfl
          have d2 := hb1.cell (i := 2) rfl
          have e0 := hb2.cell (i := 0) rfl
          have f0 := hb2.frozen 0
          have s1 := hb2.set 0 (.string kd)
          have e1 := s1.cell (i := 1) rfl
          have f1 := s1.frozen 1
          have s2 := s1.set 1 (.string da')
          have e2 := s2.cell (i := 2) rfl
          have f2 := s2.frozen 2
          have s3 := s2.set 2 (.bool ex)
          have e3 := s3.cell (i := 3) rfl
          have f3 := s3.frozen 3
          have s4 := s3.set 3 (.slice a2 ks.length c2)
          have r0 := s4.cell (i := 0) rfl
          have r1 := s4.cell (i := 1) rfl
          have r2 := s4.cell (i := 2) rfl
          have r3 := s4.cell (i := 3) rfl
          have hFF := ((((Fr.refl (fun b => b = w.heap.size + 1) wr).setCell (p := ⟨w.heap.size + 1, 0, none⟩) (.inl rfl) (.string kd)).setCell (p := ⟨w.heap.size + 1, 1, none⟩) (.inl rfl) (.string da')).setCell (p := ⟨w.heap.size + 1, 2, none⟩) (.inl rfl) (.bool ex)).setCell (p := ⟨w.heap.size + 1, 3, none⟩) (.inl rfl) (.slice a2 ks.length c2)
          have hOO := hon.fr hFF (fun b hb e => by have := (hon.blk b hb).1; omega)
          have hBB := hbel.trans (hFF.below hbel.size (fun b e => by omega))
          have HOO := hidd hOO
          have HFF := hidd hFF
          have HLL := hidd hll
          have HKK := hidd hkk
          clear hok hin heq ht hown hon hOO hFF hll hkk hb1 hb2 hbel s1 s2 s3
          go_wp2_with fail
          refine bodyPost_ret (v := .agg #[.string kd, .string da', .bool ex, .slice a2 ks.length c2]) ?_ rfl ?_
          · rw [results_cell1 rfl]
            go_simp
          · obtain ⟨h1, h2, h3, h4⟩ := HP.out
            have hFF := HFF.out
            have hOO := HOO.out
            have hsF := hFF.size
            have hlk : ls.length = ks.length := by rw [HLL.out, HKK.out]
            refine ⟨a2, c2, ls, by rw [hlk], h1, ?_, ?_, hBB⟩
            · refine Tr.Ok.mk' ?_ h2 (oks_iff.1 (oks_fr hFF ls h3 (inS_mono (fun b hb e => by omega) ls h4)))
              simp only [Tr.v, Tr.kids]
              have := hOO.sl
              rw [hlk]; exact this
            · rw [Tr.In]
              refine ⟨fun _ b hb => ?_, inS_mono (fun b hb => by omega) ls h4⟩
              have hb2 := hOO.blk b (by rw [hlk] at hb; exact hb)
              exact ⟨by omega, hb2.2⟩

end Go.Proofs.YtoemahhpheobkaaGreatDoor

namespace Go.Proofs.YtoemahhpheobkaaGreatDoor
open Go.RowKit Go.Shelf

/-- What is read of a path, or nothing. -/
def rdG (s : St) (e : Dt) (q : ByteArray) : ByteArray := (rdP s.ls s.T e.F q).getD ⟨#[]⟩
/-- What filled gives. -/
def FdP (E : Nat → Addr) (s : St) (e0 : Dt) (t : Lt) (p : ByteArray) (d0 : Nat) (w : World) (e : Ending) (w' : World) : Prop :=
  Below w.heap.size w w' ∧ ((∃ (a : Option Addr) (c : Nat) (ks : List (ByteArray × Lt)) (da : ByteArray), e = .returned (.tuple #[.agg #[.string t.kind, .string da, .bool t.exec, .slice a ks.length c], .nilIface]) ∧
      (Tr.mk t.kind da t.exec (.slice a ks.length c) ks : Lt).bare = fillT (rdG s e0) p t.bare ∧ (Tr.mk t.kind da t.exec (.slice a ks.length c) ks : Lt).Ok w' ∧ (Tr.mk t.kind da t.exec (.slice a ks.length c) ks : Lt).In (fun b => w.heap.size ≤ b ∧ b < w'.heap.size) ∧
      ∀ x ∈ pre p d0 t, x.n.kind = kFile → (rdP s.ls s.T e0.F (pathOf x.path)).isSome = true) ∨
    (∃ (kd da : ByteArray) (ex : Bool) (a : Option Addr) (n c : Nat), e = .returned (.tuple #[.agg #[.string kd, .string da, .bool ex, .slice a n c], .iface 249 (.pointer (some (E 3)))]) ∧ ∃ x ∈ pre p d0 t, x.n.kind = kFile ∧ rdP s.ls s.T e0.F (pathOf x.path) = none))

theorem asz (w : World) (o : Obj) : (w.alloc o).heap.size = w.heap.size + 1 := by simp
theorem pathOf_le (p : ByteArray) : (pathOf p).size ≤ p.size + 1 := by
  unfold pathOf Lib.maxS
  split
  · show 1 ≤ _; omega
  · omega

set_option maxRecDepth 100000 in
set_option maxHeartbeats 4000000 in
theorem filled_file {pc : Prop} (E : Nat → Addr) (B : Nat) (L : Loc) (s : St) (ke : Nat) (e0 : Dt) (he : s.D ke = some e0) (hN : s.N ≤ 1000000) (da : ByteArray) (ex : Bool) (ta : Option Addr) (tc : Nat) (p : ByteArray) (d0 : Nat) (w : World)
    (ht : (Tr.mk kFile da ex (.slice ta 0 tc) [] : Lt).Ok w) (h : DiM pc w L s) (hE : Env diGs B w E) (hp : p.size ≤ 1000000) (n : Nat) (y : Ino) (hF : e0.F (pathOf p) = some n) (hy : s.T n = some y) :
    Calls Tryz.prog 39 #[.pointer (some ⟨L.d, 0, none⟩), .agg #[.string kFile, .string da, .bool ex, .slice ta 0 tc], .string p, entV e0] w (FdP E s e0 (.mk kFile da ex (.slice ta 0 tc) []) p d0 w) := by
  obtain ⟨ea, ec, hev⟩ := (h.tr _ _ he).shape
  unfold entV
  rw [hev]
  generalize hkl : e0.tr.kids.length = el at *
  have hB0 : Below w.heap.size w (((w.alloc (.cells #[.string kFile, .string da, .bool ex, .slice ta 0 tc] 32)).alloc (.cells #[.string e0.tr.kind, .string e0.tr.data, .bool e0.tr.exec, .slice ea el ec, .map (some e0.fm)] 83)).alloc (.cells #[.string ⟨#[]⟩, .string ⟨#[]⟩, .bool false, .slice none 0 0] 32)) := (((Below.refl _ _).alloc (Nat.le_refl _) _).alloc (by simp) _).alloc (by simp; omega) _
  have hq1 := ((Blk.new w [.string kFile, .string da, .bool ex, .slice ta 0 tc] 32).alloc (.cells #[.string e0.tr.kind, .string e0.tr.data, .bool e0.tr.exec, .slice ea el ec, .map (some e0.fm)] 83)).alloc (.cells #[.string ⟨#[]⟩, .string ⟨#[]⟩, .bool false, .slice none 0 0] 32)
  have hq2 := (Blk.new (w.alloc (.cells #[.string kFile, .string da, .bool ex, .slice ta 0 tc] 32)) [.string e0.tr.kind, .string e0.tr.data, .bool e0.tr.exec, .slice ea el ec, .map (some e0.fm)] 83).alloc (.cells #[.string ⟨#[]⟩, .string ⟨#[]⟩, .bool false, .slice none 0 0] 32)
  have hq3 := Blk.new ((w.alloc (.cells #[.string kFile, .string da, .bool ex, .slice ta 0 tc] 32)).alloc (.cells #[.string e0.tr.kind, .string e0.tr.data, .bool e0.tr.exec, .slice ea el ec, .map (some e0.fm)] 83)) [.string ⟨#[]⟩, .string ⟨#[]⟩, .bool false, .slice none 0 0] 32
  rw [asz] at hq2
  rw [asz, asz] at hq3
  have hz1 : (((w.alloc (.cells #[.string kFile, .string da, .bool ex, .slice ta 0 tc] 32)).alloc (.cells #[.string e0.tr.kind, .string e0.tr.data, .bool e0.tr.exec, .slice ea el ec, .map (some e0.fm)] 83)).alloc (.cells #[.string ⟨#[]⟩, .string ⟨#[]⟩, .bool false, .slice none 0 0] 32)).heap.size = w.heap.size + 3 := by rw [asz, asz, asz]
  have hh := h.low hB0
  have hRD := dread_any E B L s n y _ (hh.low (Below.refl _ _).drew) ((hE.ob hB0).ob (Below.refl _ _).drew) hN hy
  have hps := pathOf_le p
  have hl := (hh.fms _ _ he).look (q := pathOf p) (by omega)
  have hld := ((hh.low (Below.refl _ _).drew).fms _ _ he).look (q := pathOf p) (by omega)
  rw [show fmF e0.F (pathOf p) = some (.int .i64 (n : Int)) by unfold fmF; rw [hF]; rfl] at hl hld
  simp only [Option.getD_some] at hl hld
  have hmx : ∀ (w : World) (ts : Array TypeId) (t : TypeId), (Builtin.max_ ts t #[.string p, .string ⟨#[47]⟩]).run Tryz.prog w = .ok (.string (pathOf p)) w := fun w ts t => Lib.run_max_strs w ts t _ _
  have HRP : Hid (rdP s.ls s.T e0.F (pathOf p) = rdI s.ls y) := hidd (by unfold rdP; rw [hF]; simp only [Option.bind_some]; rw [hy]; rfl)
  have HT := hidd ht
  have hc0 := hh.c0
  have q1 : (kFile.toList == [102, 105, 108, 101]) = true := by rw [kFile_list]; rfl
  have HPO : Hid (∀ x ∈ pre p d0 (Tr.mk kFile da ex (.slice ta 0 tc) [] : Lt), x.path = p) := hidd (fun x hx => by
    rw [pre, pres] at hx
    simp only [List.mem_cons, List.not_mem_nil, or_false] at hx
    rw [hx])
  have HPI : Hid ((⟨p, d0, .mk kFile da ex (.slice ta 0 tc) []⟩ : It Value) ∈ pre p d0 (Tr.mk kFile da ex (.slice ta 0 tc) [] : Lt)) := hidd (by rw [pre]; exact List.mem_cons_self ..)
  obtain ⟨pp, hpp⟩ : ∃ x, pathOf p = x := ⟨_, rfl⟩
  have HPP := hidd hpp
  rw [hpp] at HRP hps hl hld hmx
  clear hpp
  clear hh h hE hF hy hps ht he hkl hev hN
  cases hrd : rdI s.ls y with
  | some b =>
    rw [hrd] at hRD HRP
    simp only [rdV] at hRD
    have HRD := hidd hRD
    clear hRD
    go_enter Tryz.func39, Tryz.ntmps39
    go_upto_region 3 with fail
    generalize ((w.alloc (.cells #[.string kFile, .string da, .bool ex, .slice ta 0 tc] 32)).alloc (.cells #[.string e0.tr.kind, .string e0.tr.data, .bool e0.tr.exec, .slice ea el ec, .map (some e0.fm)] 83)).alloc (.cells #[.string ⟨#[]⟩, .string ⟨#[]⟩, .bool false, .slice none 0 0] 32) = w1 at *
    have a4 := hq2.cell (i := 4) rfl
    have HQ1 := hidd (fun W (hW : Below w1.heap.size w1.drew W) => (hq1.drew.below hW hq1.lt))
    have HQ3 := hidd (fun W (hW : Below w1.heap.size w1.drew W) => (hq3.drew.below hW hq3.lt))
    have HB0 := hidd hB0
    clear hq1 hq2 hq3 hB0
    go_region_law (first
      | (go_simp; go_at_call 25; (with_reducible refine HRD.out.mono ?_); rintro e w5 ⟨rfl, hb5⟩; have z0 := (HQ1.out w5 hb5).frozen 1; have z1 := (HQ1.out w5 hb5).cell (i := 1) rfl))
    all_goals
      have hw5 : Below w.heap.size w w5 := HB0.out.trans (((Below.refl w1.heap.size w1).drew.trans hb5).mono (by omega))
      have hk1 := (HQ1.out w5 hb5).set 1 (.string b)
      have s0 := (HQ3.out w5 hb5).other (a := ⟨w.heap.size, 1, none⟩) (by show w.heap.size + 1 + 1 ≠ w.heap.size; omega) (.string b)
      have hw6 := hw5.setCell (p := ⟨w.heap.size, 1, none⟩) (Nat.le_refl _) (.string b)
      generalize w5.setCell ⟨w.heap.size, 1, none⟩ (.string b) = w6 at *
      clear hb5 z0 z1 hl hld a4 hc0 hw5
      have b0 := hk1.cell (i := 0) rfl
      have b1 := hk1.cell (i := 1) rfl
      have b2 := hk1.cell (i := 2) rfl
      have b3 := hk1.cell (i := 3) rfl
      have e0' := s0.cell (i := 0) rfl
      have f0 := s0.frozen 0
      have s1 := s0.set 0 (.string kFile)
      have e1 := s1.cell (i := 1) rfl
      have f1 := s1.frozen 1
      have s2 := s1.set 1 (.string b)
      have e2 := s2.cell (i := 2) rfl
      have f2 := s2.frozen 2
      have s3 := s2.set 2 (.bool ex)
      have e3 := s3.cell (i := 3) rfl
      have f3 := s3.frozen 3
      have s4 := s3.set 3 (.slice ta 0 tc)
      have r0 := s4.cell (i := 0) rfl
      have r1 := s4.cell (i := 1) rfl
      have r2 := s4.cell (i := 2) rfl
      have r3 := s4.cell (i := 3) rfl
      have HW := hidd ((((hw6.setCell (p := ⟨w.heap.size + 1 + 1, 0, none⟩) (by show _ ≤ w.heap.size + 1 + 1; omega) (.string kFile)).setCell (p := ⟨w.heap.size + 1 + 1, 1, none⟩) (by show _ ≤ w.heap.size + 1 + 1; omega) (.string b)).setCell (p := ⟨w.heap.size + 1 + 1, 2, none⟩) (by show _ ≤ w.heap.size + 1 + 1; omega) (.bool ex)).setCell (p := ⟨w.heap.size + 1 + 1, 3, none⟩) (by show _ ≤ w.heap.size + 1 + 1; omega) (.slice ta 0 tc))
      clear hk1 s0 s1 s2 s3 s4 hw6
      go_wp2_with fail
      refine bodyPost_ret (v := .tuple #[.agg #[.string kFile, .string b, .bool ex, .slice ta 0 tc], .nilIface]) ?_ rfl ?_
      · rw [results_cell_tmp rfl]
        go_simp
      · have hW := HW.out
        refine ⟨hW, .inl ⟨ta, tc, [], b, rfl, ?_, ?_, ?_, fun x hx _ => ?_⟩⟩
        · show (Tr.mk kFile b ex () [] : Nd) = fillT (rdG s e0) p (Tr.mk kFile da ex () [])
          rw [fillT, if_pos rfl]
          unfold rdG
          rw [HPP.out, HRP.out]
          rfl
        · refine Tr.Ok.mk' ?_ (fun x hx => by cases hx) (fun x hx => by cases hx)
          exact (HT.out.sl).ob hW (Nat.le_refl _)
        · rw [Tr.In]
          exact ⟨fun h => absurd rfl h, by rw [InS]; trivial⟩
        · rw [HPO.out x hx, HPP.out, HRP.out]; rfl
  | none =>
    rw [hrd] at hRD HRP
    simp only [rdV] at hRD
    unfold erv at hRD
    have HRD := hidd hRD
    clear hRD
    go_enter Tryz.func39, Tryz.ntmps39
    go_upto_region 3 with fail
    generalize ((w.alloc (.cells #[.string kFile, .string da, .bool ex, .slice ta 0 tc] 32)).alloc (.cells #[.string e0.tr.kind, .string e0.tr.data, .bool e0.tr.exec, .slice ea el ec, .map (some e0.fm)] 83)).alloc (.cells #[.string ⟨#[]⟩, .string ⟨#[]⟩, .bool false, .slice none 0 0] 32) = w1 at *
    have a4 := hq2.cell (i := 4) rfl
    have HQ1 := hidd (fun W (hW : Below w1.heap.size w1.drew W) => (hq1.drew.below hW hq1.lt))
    have HQ3 := hidd (fun W (hW : Below w1.heap.size w1.drew W) => (hq3.drew.below hW hq3.lt))
    have HB0 := hidd hB0
    clear hq1 hq2 hq3 hB0
    go_region_law (first
      | (go_simp; go_at_call 25; (with_reducible refine HRD.out.mono ?_); rintro e w5 ⟨rfl, hb5⟩; have z0 := (HQ1.out w5 hb5).frozen 1; have z1 := (HQ1.out w5 hb5).cell (i := 1) rfl))
    all_goals
      have hw5 : Below w.heap.size w w5 := HB0.out.trans (((Below.refl w1.heap.size w1).drew.trans hb5).mono (by omega))
      have hk1 := (HQ1.out w5 hb5).set 1 (.string ⟨#[]⟩)
      have s0 := (HQ3.out w5 hb5).other (a := ⟨w.heap.size, 1, none⟩) (by show w.heap.size + 1 + 1 ≠ w.heap.size; omega) (.string ⟨#[]⟩)
      have hw6 := hw5.setCell (p := ⟨w.heap.size, 1, none⟩) (Nat.le_refl _) (.string ⟨#[]⟩)
      generalize w5.setCell ⟨w.heap.size, 1, none⟩ (.string ⟨#[]⟩) = w6 at *
      clear hb5 z0 z1 hl hld a4 hc0 hw5
      have b0 := hk1.cell (i := 0) rfl
      have b1 := hk1.cell (i := 1) rfl
      have b2 := hk1.cell (i := 2) rfl
      have b3 := hk1.cell (i := 3) rfl
      have e0' := s0.cell (i := 0) rfl
      have f0 := s0.frozen 0
      have s1 := s0.set 0 (.string kFile)
      have e1 := s1.cell (i := 1) rfl
      have f1 := s1.frozen 1
      have s2 := s1.set 1 (.string ⟨#[]⟩)
      have e2 := s2.cell (i := 2) rfl
      have f2 := s2.frozen 2
      have s3 := s2.set 2 (.bool ex)
      have e3 := s3.cell (i := 3) rfl
      have f3 := s3.frozen 3
      have s4 := s3.set 3 (.slice ta 0 tc)
      have r0 := s4.cell (i := 0) rfl
      have r1 := s4.cell (i := 1) rfl
      have r2 := s4.cell (i := 2) rfl
      have r3 := s4.cell (i := 3) rfl
      have HW := hidd ((((hw6.setCell (p := ⟨w.heap.size + 1 + 1, 0, none⟩) (by show _ ≤ w.heap.size + 1 + 1; omega) (.string kFile)).setCell (p := ⟨w.heap.size + 1 + 1, 1, none⟩) (by show _ ≤ w.heap.size + 1 + 1; omega) (.string ⟨#[]⟩)).setCell (p := ⟨w.heap.size + 1 + 1, 2, none⟩) (by show _ ≤ w.heap.size + 1 + 1; omega) (.bool ex)).setCell (p := ⟨w.heap.size + 1 + 1, 3, none⟩) (by show _ ≤ w.heap.size + 1 + 1; omega) (.slice ta 0 tc))
      clear hk1 s0 s1 s2 s3 s4 hw6
      go_wp2_with fail
      refine bodyPost_ret (v := .tuple #[.agg #[.string kFile, .string ⟨#[]⟩, .bool ex, .slice ta 0 tc], .iface 249 (.pointer (some (E 3)))]) ?_ rfl ?_
      · rw [results_cell_tmp rfl]
        go_simp
      · exact ⟨HW.out, .inr ⟨kFile, ⟨#[]⟩, ex, ta, 0, tc, rfl, _, HPI.out, rfl, by rw [HPP.out, HRP.out]⟩⟩


theorem pres_mem {α : Type} (p : ByteArray) (d : Nat) : ∀ {ks : List (ByteArray × Tr α)} {x : ByteArray × Tr α}, x ∈ ks → ∀ y ∈ pre (sub p x.1) d x.2, y ∈ pres p d ks
  | (n, t) :: r, x, hx, y, hy => by
    rw [pres, List.mem_append]
    rcases List.mem_cons.1 hx with rfl | hx
    · exact .inl hy
    · exact .inr (pres_mem p d hx y hy)
/-- What filled gives for a kid: the values, and what they are. -/
def FkR (E : Nat → Addr) (s : St) (e0 : Dt) (t : Lt) (p : ByteArray) (d0 : Nat) (B0 : Nat) (K Dd : ByteArray) (X : Bool) (a : Option Addr) (n c : Nat) (V : Value) (w' : World) : Prop :=
  (V = .nilIface ∧ ∃ ks : List (ByteArray × Lt), n = ks.length ∧ K = t.kind ∧ X = t.exec ∧ (Tr.mk K Dd X (.slice a n c) ks : Lt).bare = fillT (rdG s e0) p t.bare ∧ (Tr.mk K Dd X (.slice a n c) ks : Lt).Ok w' ∧ (Tr.mk K Dd X (.slice a n c) ks : Lt).In (fun b => B0 ≤ b ∧ b < w'.heap.size) ∧
      ∀ x ∈ pre p d0 t, x.n.kind = kFile → (rdP s.ls s.T e0.F (pathOf x.path)).isSome = true) ∨
  (V = .iface 249 (.pointer (some (E 3))) ∧ ∃ x ∈ pre p d0 t, x.n.kind = kFile ∧ rdP s.ls s.T e0.F (pathOf x.path) = none)
theorem fk_of {E : Nat → Addr} {s : St} {e0 : Dt} {t : Lt} {p : ByteArray} {d0 : Nat} {w : World} {e : Ending} {w' : World} (h : FdP E s e0 t p d0 w e w') :
    ∃ (K Dd : ByteArray) (X : Bool) (a : Option Addr) (n c : Nat) (V : Value), e = .returned (.tuple #[.agg #[.string K, .string Dd, .bool X, .slice a n c], V]) ∧ Below w.heap.size w w' ∧ FkR E s e0 t p d0 w.heap.size K Dd X a n c V w' := by
  obtain ⟨hb, ⟨a, c, ks, da, rfl, h1, h2, h3, h4⟩ | ⟨kd, da, ex, a, n, c, rfl, h1⟩⟩ := h
  · exact ⟨t.kind, da, t.exec, a, ks.length, c, .nilIface, rfl, hb, .inl ⟨rfl, ks, rfl, rfl, rfl, h1, h2, h3, h4⟩⟩
  · exact ⟨kd, da, ex, a, n, c, _, rfl, hb, .inr ⟨rfl, h1⟩⟩
/-- What filled's round reads. -/
structure FkK (H kb g : Nat) (kd da : ByteArray) (ex : Bool) (a2 : Option Addr) (n c2 : Nat) (ek ed : ByteArray) (ee : Bool) (ea : Option Addr) (el ec fm : Nat) (nx kx dx : ByteArray) (ex' : Bool) (ya : Option Addr) (yn yc : Nat) (W : World) : Prop where
  b1 : Blk W H [.string kd, .string da, .bool ex, .slice a2 n c2] 32
  b2 : Blk W (H + 1) [.string ek, .string ed, .bool ee, .slice ea el ec, .map (some fm)] 83
  bk : Blk W kb [.string nx, .string kx, .string dx, .bool ex', .slice ya yn yc] 85
  hg : H + 1 + 2 ≤ g
  gk : g < kb
section
variable {H kb g : Nat} {kd da : ByteArray} {ex : Bool} {a2 : Option Addr} {n c2 : Nat} {ek ed : ByteArray} {ee : Bool} {ea : Option Addr} {el ec fm : Nat} {nx kx dx : ByteArray} {ex' : Bool} {ya : Option Addr} {yn yc : Nat} {W W' : World}
theorem FkK.later (h : FkK H kb g kd da ex a2 n c2 ek ed ee ea el ec fm nx kx dx ex' ya yn yc W) (hb : Below W.heap.size W W') : FkK H kb g kd da ex a2 n c2 ek ed ee ea el ec fm nx kx dx ex' ya yn yc W' :=
  ⟨h.b1.below hb h.b1.lt, h.b2.below hb h.b2.lt, h.bk.below hb h.bk.lt, h.hg, h.gk⟩
theorem FkK.four (h : FkK H kb g kd da ex a2 n c2 ek ed ee ea el ec fm nx kx dx ex' ya yn yc W) (_h1 : H < kb) (_h2 : H + 1 < kb) (o1 o2 o3 o4 : Nat) {v1 v2 v3 v4 : Value} : FkK H kb g kd da ex a2 n c2 ek ed ee ea el ec fm nx kx dx ex' ya yn yc ((((W.setCell ⟨g, o1, none⟩ v1).setCell ⟨g, o2, none⟩ v2).setCell ⟨g, o3, none⟩ v3).setCell ⟨g, o4, none⟩ v4) := by
  have hg := h.hg
  have gk := h.gk
  have e1 : H ≠ g := by omega
  have e2 : H + 1 ≠ g := by omega
  have e3 : kb ≠ g := by omega
  exact ⟨(((h.b1.other (a := ⟨g, o1, none⟩) e1 v1).other (a := ⟨g, o2, none⟩) e1 v2).other (a := ⟨g, o3, none⟩) e1 v3).other (a := ⟨g, o4, none⟩) e1 v4,
    (((h.b2.other (a := ⟨g, o1, none⟩) e2 v1).other (a := ⟨g, o2, none⟩) e2 v2).other (a := ⟨g, o3, none⟩) e2 v3).other (a := ⟨g, o4, none⟩) e2 v4,
    (((h.bk.other (a := ⟨g, o1, none⟩) e3 v1).other (a := ⟨g, o2, none⟩) e3 v2).other (a := ⟨g, o3, none⟩) e3 v3).other (a := ⟨g, o4, none⟩) e3 v4, hg, gk⟩
end
/-- The kid that is set. -/
def FzG (g off k : Nat) (kx dx : ByteArray) (ex' : Bool) (v : Value) (W : World) : Prop := (W.cell? ⟨g, off + k * 5 + 1, none⟩ = some (.string kx) ∧ W.cell? ⟨g, off + k * 5 + 2, none⟩ = some (.string dx) ∧ W.cell? ⟨g, off + k * 5 + 3, none⟩ = some (.bool ex') ∧ W.cell? ⟨g, off + k * 5 + 4, none⟩ = some v) ∧ ∀ j, W.frozen? ⟨g, j, none⟩ = false

/-- The loop of filled. -/
structure FdI (s : St) (e0 : Dt) (p : ByteArray) (d0 : Nat) (w : World) (kd da : ByteArray) (ex : Bool) (ek ed : ByteArray) (ee : Bool) (ea : Option Addr) (el ec : Nat) (a2 : Option Addr) (c2 : Nat) (ks : List (ByteArray × Lt)) (k : Nat) (ls : List (ByteArray × Lt)) (wr : World) : Prop where
  le : k ≤ ks.length
  len : ls.length = k
  eq : ∀ i (h : i < ls.length) (h' : i < ks.length), ls[i].1 = ks[i].1 ∧ ls[i].2.bare = fillT (rdG s e0) (sub p ks[i].1) ks[i].2.bare
  all : ∀ x ∈ pres p (d0 + 1) (ks.take k), x.n.kind = kFile → (rdP s.ls s.T e0.F (pathOf x.path)).isSome = true
  own : Ow (fun g => w.heap.size + 1 + 2 ≤ g) wr 85 5 (.slice a2 ks.length c2) ks.length (kcells (ls ++ ks.drop k))
  ok : Oks wr ls
  ins : InS (fun b => w.heap.size + 1 + 2 ≤ b ∧ b < wr.heap.size ∧ (Value.slice a2 ks.length c2).ownBlock ≠ some b) ls
  b1 : Blk wr w.heap.size [.string kd, .string da, .bool ex, .slice a2 ks.length c2] 32
  b2 : Blk wr (w.heap.size + 1) [.string ek, .string ed, .bool ee, .slice ea el ec, .map (some e0.fm)] 83
  b3 : Blk wr (w.heap.size + 1 + 1) [.string ⟨#[]⟩, .string ⟨#[]⟩, .bool false, .slice none 0 0] 32
  bel : Below w.heap.size w wr

set_option maxRecDepth 100000 in
set_option maxHeartbeats 16000000 in
theorem filled_any {pc : Prop} (E : Nat → Addr) (B : Nat) (L : Loc) (s : St) (ke : Nat) (e0 : Dt) (he : s.D ke = some e0) (hN : s.N ≤ 1000000) (m : Nat) : ∀ (t : Lt) (p : ByteArray) (d0 : Nat) (w : World), t.sz ≤ m → m ≤ 300 → t.Ok w → DiM pc w L s → Env diGs B w E →
    (∀ x ∈ pre p d0 t, x.path.size ≤ 1000000 ∧ (x.n.kind = kFile → x.n.kids = [] ∧ ∃ n y, e0.F (pathOf x.path) = some n ∧ s.T n = some y)) →
    Calls Tryz.prog 39 #[.pointer (some ⟨L.d, 0, none⟩), nval t, .string p, entV e0] w (FdP E s e0 t p d0 w) := by
  induction m with
  | zero => intro t p d0 w hm; have := Tr.sz_kids t; omega
  | succ m ih =>
    intro t p d0 w hm hm3 ht h hE HFX
    obtain ⟨ta, tc, htv⟩ := ht.shape
    by_cases hkk : t.kind = kFile
    · obtain ⟨hp0, hf0⟩ := HFX ⟨p, d0, t⟩ (by rw [pre_cons]; exact List.mem_cons_self ..)
      obtain ⟨hk0, n, y, hF, hy⟩ := hf0 hkk
      obtain ⟨kd, da, ex, va, ks⟩ := t
      simp only [Tr.v, Tr.kids, Tr.kind] at htv hkk hk0 hp0 hF
      subst hk0 htv hkk
      exact filled_file E B L s ke e0 he hN da ex ta tc p d0 w ht h hE hp0 n y hF hy
    · have hkl : t.kids.length ≤ m := by
        have h1 := Tr.sz_kids t
        have h2 : t.kids.length ≤ Tr.szs t.kids := by
          rw [← pres_len ⟨#[]⟩ 0]
          generalize t.kids = l
          clear ih hm ht htv h1 HFX hkk
          induction l with
          | nil => simp
          | cons x r ih => obtain ⟨n, t⟩ := x; rw [pres, List.length_append, pre_cons]; simp only [List.length_cons]; omega
        omega
      have HKA : Hid (∀ i (h : i < t.kids.length), t.kids[i].2.sz ≤ m) := hidd (fun i h => by have := Tr.sz_lt (List.getElem_mem h); omega)
      obtain ⟨ea, ec, hev⟩ := (h.tr _ _ he).shape
      obtain ⟨ek, hek⟩ : ∃ x, e0.tr.kind = x := ⟨_, rfl⟩
      obtain ⟨ed, hed⟩ : ∃ x, e0.tr.data = x := ⟨_, rfl⟩
      obtain ⟨ee, hee⟩ : ∃ x, e0.tr.exec = x := ⟨_, rfl⟩
      have hent : entV e0 = .agg #[.string ek, .string ed, .bool ee, .slice ea e0.tr.kids.length ec, .map (some e0.fm)] := by unfold entV; rw [hev, hek, hed, hee]
      obtain ⟨kd, da, ex, va, ks⟩ := t
      simp only [Tr.v, Tr.kids, Tr.kind] at htv hkl HKA hkk
      subst htv
      rw [hent] at ih ⊢
      obtain ⟨el, hel⟩ : ∃ n, e0.tr.kids.length = n := ⟨_, rfl⟩
      rw [hel] at ih ⊢
      have HPS : Hid (∀ i (hi : i < ks.length), ∀ x ∈ pre (sub p ks[i].1) (d0 + 1) ks[i].2, x.path.size ≤ 1000000 ∧ (x.n.kind = kFile → x.n.kids = [] ∧ ∃ n y, e0.F (pathOf x.path) = some n ∧ s.T n = some y)) := hidd (fun i hi x hx => HFX x (by
        rw [pre]
        exact List.mem_cons_of_mem _ (pres_mem p (d0 + 1) (List.getElem_mem hi) x hx)))
      have hp0 := (HFX ⟨p, d0, .mk kd da ex (.slice ta ks.length tc) ks⟩ (by rw [pre]; exact List.mem_cons_self ..)).1
      simp only at hp0
      have hB0 : Below w.heap.size w (((w.alloc (.cells #[.string kd, .string da, .bool ex, .slice ta ks.length tc] 32)).alloc (.cells #[.string ek, .string ed, .bool ee, .slice ea el ec, .map (some e0.fm)] 83)).alloc (.cells #[.string ⟨#[]⟩, .string ⟨#[]⟩, .bool false, .slice none 0 0] 32)) := (((Below.refl _ _).alloc (Nat.le_refl _) _).alloc (by simp) _).alloc (by simp; omega) _
      have hq1 := ((Blk.new w [.string kd, .string da, .bool ex, .slice ta ks.length tc] 32).alloc (.cells #[.string ek, .string ed, .bool ee, .slice ea el ec, .map (some e0.fm)] 83)).alloc (.cells #[.string ⟨#[]⟩, .string ⟨#[]⟩, .bool false, .slice none 0 0] 32)
      have hq2 := (Blk.new (w.alloc (.cells #[.string kd, .string da, .bool ex, .slice ta ks.length tc] 32)) [.string ek, .string ed, .bool ee, .slice ea el ec, .map (some e0.fm)] 83).alloc (.cells #[.string ⟨#[]⟩, .string ⟨#[]⟩, .bool false, .slice none 0 0] 32)
      have hq3 := Blk.new ((w.alloc (.cells #[.string kd, .string da, .bool ex, .slice ta ks.length tc] 32)).alloc (.cells #[.string ek, .string ed, .bool ee, .slice ea el ec, .map (some e0.fm)] 83)) [.string ⟨#[]⟩, .string ⟨#[]⟩, .bool false, .slice none 0 0] 32
      rw [asz] at hq2
      rw [asz, asz] at hq3
      have hz1 : (((w.alloc (.cells #[.string kd, .string da, .bool ex, .slice ta ks.length tc] 32)).alloc (.cells #[.string ek, .string ed, .bool ee, .slice ea el ec, .map (some e0.fm)] 83)).alloc (.cells #[.string ⟨#[]⟩, .string ⟨#[]⟩, .bool false, .slice none 0 0] 32)).heap.size = w.heap.size + 3 := by rw [asz, asz, asz]
      have HLW := hidd (fun W (hW : Below w.heap.size w W) => h.low hW)
      have HEW := hidd (fun W (hW : Below w.heap.size w W) => hE.ob hW)
      have ht0 := ht.ob hB0
      have hsl0 := ht0.sl
      have hoks0 : Oks _ ks := oks_iff.2 (fun x hx => ht0.kid (x := x) hx)
      simp only [Tr.v, Tr.kids] at hsl0
      have HCL := hidd (clone_kids _ ks _ hsl0 hoks0 (by omega))
      have q1 : (kd.toList == [102, 105, 108, 101]) = false := by rw [← kFile_list]; exact beq_str hkk
      have HKK := hidd hkk
      unfold nval
      simp only [Tr.kind, Tr.data, Tr.exec, Tr.v]
      clear ht0 hsl0 hoks0 hm h hE hkk hev hent hel HFX hek hed hee
      go_enter Tryz.func39, Tryz.ntmps39
      go_upto_region 5 with fail
      generalize ((w.alloc (.cells #[.string kd, .string da, .bool ex, .slice ta ks.length tc] 32)).alloc (.cells #[.string ek, .string ed, .bool ee, .slice ea el ec, .map (some e0.fm)] 83)).alloc (.cells #[.string ⟨#[]⟩, .string ⟨#[]⟩, .bool false, .slice none 0 0] 32) = w1 at *
      have p3 := hq1.cell (i := 3) rfl
      go_wp2_with fail
      refine HCL.out.mono ?_
      rintro e w2 ⟨a2, c2, rfl, hown, hb2⟩
      have hown := hown.mono (F' := fun g => w.heap.size + 1 + 2 ≤ g) (fun g hg => by omega)
      have hb2' : Below w.heap.size w w2 := hB0.trans (hb2.mono (by omega))
      have hk1 := hq1.below hb2 hq1.lt
      have hk2 := hq2.below hb2 hq2.lt
      have hk3 := hq3.below hb2 hq3.lt
      have f3 := hk1.frozen 3
      have hk1s := hk1.set 3 (.slice a2 ks.length c2)
      have hk2s := hk2.other (a := ⟨w.heap.size, 3, none⟩) (by simp) (.slice a2 ks.length c2)
      have hk3s := hk3.other (a := ⟨w.heap.size, 3, none⟩) (by show w.heap.size + 1 + 1 ≠ w.heap.size; omega) (.slice a2 ks.length c2)
      have howns := hown.set (a := ⟨w.heap.size, 3, none⟩) (by show ¬ (w.heap.size + 1 + 2 ≤ w.heap.size); omega) (.slice a2 ks.length c2)
      have hb3 := hb2'.setCell (p := ⟨w.heap.size, 3, none⟩) (Nat.le_refl _) (.slice a2 ks.length c2)
      have x3 := hk1.cell (i := 3) rfl
      have z3 := hk1s.cell (i := 3) rfl
      have HI0 : Hid (FdI s e0 p d0 w kd da ex ek ed ee ea el ec a2 c2 ks 0 [] (w2.setCell ⟨w.heap.size, 3, none⟩ (.slice a2 ks.length c2))) := hidd ⟨Nat.zero_le _, rfl, fun i h => by simp at h, fun x hx => by simp [pres] at hx, howns, by rw [Oks]; trivial, by rw [InS]; trivial, hk1s, hk2s, hk3s, hb3⟩
      clear hk1 hk2 hk3 hown hb2' hb2 hB0 hq1 hq2 hq3 HCL hz1 p3 hk1s hk2s hk3s howns hb3
      go_wp2_with fail
      generalize w2.setCell ⟨w.heap.size, 3, none⟩ (.slice a2 ks.length c2) = w3 at *
      clear x3 z3 f3
      go_loopw [10, 11, 12, 39] (fun er _ _ t wr => er = .nilIface ∧ ∃ (k : Nat) (ls : List (ByteArray × Lt)), t = .int .i64 (k : Int) ∧ FdI s e0 p d0 w kd da ex ek ed ee ea el ec a2 c2 ks k ls wr) (fun _ _ _ t _ => ks.length - (intOf t).toNat)
      case atStart => exact ⟨rfl, 0, [], rfl, HI0.out⟩
      case round =>
        obtain ⟨rfl, k, ls, rfl, hI⟩ := hrel
        clear HI0
        have hcA := hI.b1.cell (i := 3) rfl
        have hk := hI.le
        by_cases hlt : k < ks.length
        · have hxs := HKA.out k hlt
          have hxk := (ht.ob hI.bel).get hlt
          have hnm := ht.names _ (List.getElem_mem hlt)
          have hsl := hI.own.sl
          have hll := hI.len
          have hlen : (ls ++ ks.drop k).length = ks.length := by rw [List.length_append, List.length_drop]; omega
          have hdk : ks.drop k = ks[k] :: ks.drop (k + 1) := by rw [List.getElem_cons_drop]
          have hps := HPS.out k hlt
          obtain ⟨g, off, rfl, hgl, a0, a1, a2', a3, a4⟩ := sl_at5 (l := ls ++ ks.drop k) (by rw [hlen]; exact hsl) (i := k) (by rw [hlen]; exact hlt)
          have hgk : (ls ++ ks.drop k)[k]'(by rw [hlen]; exact hlt) = ks[k] := by
            rw [List.getElem_append_right (by omega)]
            simp only [hll, Nat.sub_self]
            simp
          rw [hgk] at a0 a1 a2' a3 a4
          have hgB := (hI.own.blk g rfl).1
          simp only [Tr.kids] at hxk hnm
          have p1 : (0 : Int) ≤ (k : Int) := by omega
          have p2 : (k : Int) < (ks.length : Int) := by omega
          obtain ⟨x, hx⟩ : ∃ x, ks[k] = x := ⟨_, rfl⟩
          have HX : Hid (ks[k] = x) := hidd hx
          rw [hx] at a0 a1 a2' a3 a4 hxk hxs hnm hdk hps
          obtain ⟨ya, yc, hyv⟩ := hxk.shape
          obtain ⟨nx, ⟨kx, dx, ex', vx, ksx⟩⟩ := x
          simp only [Tr.v, Tr.kids, Tr.kind, Tr.data, Tr.exec] at hyv a1 a2' a3 a4
          subst hyv
          have hBk : Below wr.heap.size wr (wr.alloc (.cells #[.string nx, .string kx, .string dx, .bool ex', .slice ya ksx.length yc] 85)) := (Below.refl _ _).alloc (Nat.le_refl _) _
          have hps0 : (sub p nx).size ≤ 1000000 := (hps ⟨sub p nx, d0 + 1, .mk kx dx ex' (.slice ya ksx.length yc) ksx⟩ (by rw [pre]; exact List.mem_cons_self ..)).1
          have hss : (sub p nx).size = p.size + 1 + nx.size := by unfold sub; rw [ByteArray.size_append, ByteArray.size_append]; rfl
          have HC : Calls Tryz.prog 39 #[.pointer (some ⟨L.d, 0, none⟩), .agg #[.string kx, .string dx, .bool ex', .slice ya ksx.length yc], .string (p ++ ⟨#[47]⟩ ++ nx), .agg #[.string ek, .string ed, .bool ee, .slice ea el ec, .map (some e0.fm)]] (wr.alloc (.cells #[.string nx, .string kx, .string dx, .bool ex', .slice ya ksx.length yc] 85)).drew
              (fun e w' => ∃ (K Dd : ByteArray) (X : Bool) (a : Option Addr) (n c : Nat) (V : Value), e = .returned (.tuple #[.agg #[.string K, .string Dd, .bool X, .slice a n c], V]) ∧ Below (wr.alloc (.cells #[.string nx, .string kx, .string dx, .bool ex', .slice ya ksx.length yc] 85)).drew.heap.size (wr.alloc (.cells #[.string nx, .string kx, .string dx, .bool ex', .slice ya ksx.length yc] 85)).drew w' ∧
                FkR E s e0 (.mk kx dx ex' (.slice ya ksx.length yc) ksx) (sub p nx) (d0 + 1) (wr.heap.size + 1) K Dd X a n c V w') := by
            have := (ih (.mk kx dx ex' (.slice ya ksx.length yc) ksx) (sub p nx) (d0 + 1) _ hxs (by omega) ((hxk.ob hBk).ob (Below.refl _ _).drew) (HLW.out _ ((hI.bel.trans (hBk.mono hI.bel.size)).trans ((Below.refl _ _).drew))) (HEW.out _ ((hI.bel.trans (hBk.mono hI.bel.size)).trans ((Below.refl _ _).drew))) hps).mono (fun e w' h => fk_of h)
            rw [show (wr.alloc (.cells #[.string nx, .string kx, .string dx, .bool ex', .slice ya ksx.length yc] 85)).drew.heap.size = wr.heap.size + 1 from asz _ _] at this ⊢
            exact this
          have HCH := hidd HC
          have HDK := hidd hdk
          have hkb := Blk.new wr [.string nx, .string kx, .string dx, .bool ex', .slice ya ksx.length yc] 85
          have hx1 := hI.b1.alloc (.cells #[.string nx, .string kx, .string dx, .bool ex', .slice ya ksx.length yc] 85)
          have hx2 := hI.b2.alloc (.cells #[.string nx, .string kx, .string dx, .bool ex', .slice ya ksx.length yc] 85)
          have HBK := hidd hBk
          have HI := hidd hI
          have v1 : ¬ (9223372036854775807 < p.size + 1) := by omega
          have v2 : ¬ (9223372036854775807 < p.size + 1 + nx.size) := by omega
          have hg0 : ∀ W, Below wr.heap.size wr W → FzG g off k kx dx ex' (.slice ya ksx.length yc) W := fun W hb => ⟨⟨(hb.cell (p := ⟨g, _, none⟩) hgl).trans a1, (hb.cell (p := ⟨g, _, none⟩) hgl).trans a2', (hb.cell (p := ⟨g, _, none⟩) hgl).trans a3, (hb.cell (p := ⟨g, _, none⟩) hgl).trans a4⟩, fun j => (hI.own.ob hb).frozenT j⟩
          have HK0 : Hid (FkK w.heap.size wr.heap.size g kd da ex (some ⟨g, off, none⟩) ks.length c2 ek ed ee ea el ec e0.fm nx kx dx ex' ya ksx.length yc (wr.alloc (.cells #[.string nx, .string kx, .string dx, .bool ex', .slice ya ksx.length yc] 85)).drew) := hidd ⟨hx1.drew, hx2.drew, hkb.drew, hgB, hgl⟩
          have HG := hidd hg0
          have hbl := hI.b1.lt
          have hbl2 := hI.b2.lt
          clear hx hdk hgk hsl hlen HC hnm hxk hps hss hps0 hBk hkb hx1 hx2 hI hg0
          go_upto_region 9 with fail
          clear a0 a1 a2' a3 a4
          generalize wr.alloc (.cells #[.string nx, .string kx, .string dx, .bool ex', .slice ya ksx.length yc] 85) = wk at *
          have HKC : Hid (∀ W, FkK w.heap.size wr.heap.size g kd da ex (some ⟨g, off, none⟩) ks.length c2 ek ed ee ea el ec e0.fm nx kx dx ex' ya ksx.length yc W → W.cell? ⟨w.heap.size, 3, none⟩ = some (.slice (some ⟨g, off, none⟩) ks.length c2) ∧
              (W.cell? ⟨w.heap.size + 1, 0, none⟩ = some (.string ek) ∧ W.cell? ⟨w.heap.size + 1, 1, none⟩ = some (.string ed) ∧ W.cell? ⟨w.heap.size + 1, 2, none⟩ = some (.bool ee) ∧ W.cell? ⟨w.heap.size + 1, 3, none⟩ = some (.slice ea el ec) ∧ W.cell? ⟨w.heap.size + 1, 4, none⟩ = some (.map (some e0.fm))) ∧
              W.cell? ⟨wr.heap.size, 0, none⟩ = some (.string nx) ∧ W.cell? ⟨wr.heap.size, 1, none⟩ = some (.string kx) ∧ W.cell? ⟨wr.heap.size, 2, none⟩ = some (.string dx) ∧ W.cell? ⟨wr.heap.size, 3, none⟩ = some (.bool ex') ∧ W.cell? ⟨wr.heap.size, 4, none⟩ = some (.slice ya ksx.length yc)) := hidd (fun W h =>
            ⟨h.b1.cell rfl, ⟨h.b2.cell rfl, h.b2.cell rfl, h.b2.cell rfl, h.b2.cell rfl, h.b2.cell rfl⟩, h.bk.cell rfl, h.bk.cell rfl, h.bk.cell rfl, h.bk.cell rfl, h.bk.cell rfl⟩)
          go_wp2_with fail
          go_region_held3 (fun W => W.cell? ⟨w.heap.size, 3, none⟩ = some (.slice (some ⟨g, off, none⟩) ks.length c2) ∧
              (W.cell? ⟨w.heap.size + 1, 0, none⟩ = some (.string ek) ∧ W.cell? ⟨w.heap.size + 1, 1, none⟩ = some (.string ed) ∧ W.cell? ⟨w.heap.size + 1, 2, none⟩ = some (.bool ee) ∧ W.cell? ⟨w.heap.size + 1, 3, none⟩ = some (.slice ea el ec) ∧ W.cell? ⟨w.heap.size + 1, 4, none⟩ = some (.map (some e0.fm))) ∧
              W.cell? ⟨wr.heap.size, 0, none⟩ = some (.string nx) ∧ W.cell? ⟨wr.heap.size, 1, none⟩ = some (.string kx) ∧ W.cell? ⟨wr.heap.size, 2, none⟩ = some (.string dx) ∧ W.cell? ⟨wr.heap.size, 3, none⟩ = some (.bool ex') ∧ W.cell? ⟨wr.heap.size, 4, none⟩ = some (.slice ya ksx.length yc))
            (first | exact HKC.out _ (by assumption) | exact HKC.out _ HK0.out | exact HKC.out _ (FkK.four (by assumption) hbl hbl2 _ _ _ _))
            (first
              | (go_at_call 39; (with_reducible refine HCH.out.mono ?_); rintro e w5 ⟨K, Dd, X, xa, xn, xc, V, rfl, hb5, hR⟩; have hK5 := HK0.out.later hb5; have hb5x : Below wr.heap.size wr w5 := HBK.out.trans (((Below.refl _ _).drew.trans hb5).mono HBK.out.size); have hG5 := HG.out w5 hb5x; have z1 := hG5.2 (off + k * 5 + 1); have z2 := hG5.2 (off + k * 5 + 2); have z3 := hG5.2 (off + k * 5 + 3); have z4 := hG5.2 (off + k * 5 + 4); have r1 := hG5.1.1; have r2 := hG5.1.2.1; have r3 := hG5.1.2.2.1; have r4 := hG5.1.2.2.2))
          all_goals
            have hI := HI.out
            have hgH := (hI.own.blk g rfl).1
            unfold FkR at hR
            simp only [Tr.kind, Tr.exec] at hR
            rcases hR with ⟨rfl, ks', rfl, rfl, rfl, hbr, hok', hin', hall'⟩ | ⟨rfl, hbad⟩
            · obtain ⟨s1, s2, s3, s4, s5⟩ := copy_rel (B := w.heap.size + 1) (nx := nx) (rest := ks.drop (k + 1)) (y := .mk K dx X (.slice ya ksx.length yc) ksx) (by have := hI.own; rw [HDK.out] at this; exact this) hI.len hI.ok hI.ins hb5x hok' (in_mono (fun b hb => ⟨by omega, hb.2⟩) _ hin')
              have HI2 : Hid (FdI s e0 p d0 w kd da ex ek ed ee ea el ec (some ⟨g, off, none⟩) c2 ks (k + 1) (ls ++ [((nx, .mk K Dd X (.slice xa ks'.length xc) ks') : ByteArray × Lt)]) (put4 w5 g (off + k * 5) K Dd X (.slice xa ks'.length xc))) := hidd (by
                refine ⟨hlt, by simp [hI.len], fun i h h' => ?_, fun x hx hkx => ?_, s1, s2, s3, hI.b1.fr s4 (by omega), hI.b2.fr s4 (by omega), hI.b3.fr s4 (by omega), hI.bel.trans (s4.below hI.bel.size (fun b e => by omega))⟩
                · by_cases e : i < ls.length
                  · rw [List.getElem_append_left e]; exact hI.eq i e h'
                  · obtain rfl : i = k := by simp at h; omega
                    rw [List.getElem_append_right (by omega), HX.out]
                    simp only [hll, Nat.sub_self, List.getElem_cons_zero]
                    exact ⟨trivial, hbr⟩
                · rw [List.take_succ_eq_append_getElem hlt, pres_app, HX.out, pres_one, List.mem_append] at hx
                  rcases hx with hx | hx
                  · exact hI.all x hx hkx
                  · exact hall' x hx hkx)
              unfold put4 at HI2
              clear s1 s2 s3 s4 s5 hI hok' hin' hbr hall' hcA
              go_wp2_with fail
              go_roundw
              case rel => exact ⟨rfl, k + 1, _, by go_num, HI2.out⟩
              case measure => simp [intOf]; omega
            · have hF : Fr (fun b => b = g) wr (put4 w5 g (off + k * 5) K Dd X (.slice xa xn xc)) := (Fr.ob hb5x).trans (((((Fr.refl (fun b => b = g) w5).setCell (p := ⟨g, off + k * 5 + 1, none⟩) (.inl rfl) _).setCell (p := ⟨g, off + k * 5 + 1 + 1, none⟩) (.inl rfl) _).setCell (p := ⟨g, off + k * 5 + 1 + 2, none⟩) (.inl rfl) _).setCell (p := ⟨g, off + k * 5 + 1 + 3, none⟩) (.inl rfl) _)
              have s0 := hI.b3.fr hF (by omega)
              have hb6 := hI.bel.trans (hF.below hI.bel.size (fun b e => by omega))
              have HBD : Hid (∃ x ∈ pre p d0 (Tr.mk kd da ex (.slice ta ks.length tc) ks : Lt), x.n.kind = kFile ∧ rdP s.ls s.T e0.F (pathOf x.path) = none) := hidd (by
                obtain ⟨x, hx, h1, h2⟩ := hbad
                refine ⟨x, ?_, h1, h2⟩
                rw [pre]
                refine List.mem_cons_of_mem _ (pres_mem p (d0 + 1) (List.getElem_mem hlt) x ?_)
                rw [HX.out]
                exact hx)
              unfold put4 at s0 hb6
              clear hF hI hbad hcA
              generalize (((w5.setCell ⟨g, off + k * 5 + 1, none⟩ (.string K)).setCell ⟨g, off + k * 5 + 1 + 1, none⟩ (.string Dd)).setCell ⟨g, off + k * 5 + 1 + 2, none⟩ (.bool X)).setCell ⟨g, off + k * 5 + 1 + 3, none⟩ (.slice xa xn xc) = w6 at *
              clear z1 z2 z3 z4 r1 r2 r3 r4 hK5 hG5
              have e0' := s0.cell (i := 0) rfl
              have f0 := s0.frozen 0
              have e1 := s0.cell (i := 1) rfl
              have f1 := s0.frozen 1
              have e2 := s0.cell (i := 2) rfl
              have f2 := s0.frozen 2
              have e3 := s0.cell (i := 3) rfl
              have f3 := s0.frozen 3
              have HW := hidd hb6
              have S1 := (s0.set 0 (.string ⟨#[]⟩))
              have S2 := (S1.set 1 (.string ⟨#[]⟩))
              have S3 := (S2.set 2 (.bool false))
              have S4 := (S3.set 3 (.slice none 0 0))
              have g1 := S1.frozen 1
              have g2 := S2.frozen 2
              have g3 := S3.frozen 3
              have i0 := S4.cell (i := 0) rfl
              have i1 := S4.cell (i := 1) rfl
              have i2 := S4.cell (i := 2) rfl
              have i3 := S4.cell (i := 3) rfl
              have HW4 := hidd ((((hb6.setCell (p := ⟨w.heap.size + 1 + 1, 0, none⟩) (by show _ ≤ w.heap.size + 1 + 1; omega) (.string ⟨#[]⟩)).setCell (p := ⟨w.heap.size + 1 + 1, 1, none⟩) (by show _ ≤ w.heap.size + 1 + 1; omega) (.string ⟨#[]⟩)).setCell (p := ⟨w.heap.size + 1 + 1, 2, none⟩) (by show _ ≤ w.heap.size + 1 + 1; omega) (.bool false)).setCell (p := ⟨w.heap.size + 1 + 1, 3, none⟩) (by show _ ≤ w.heap.size + 1 + 1; omega) (.slice none 0 0))
              clear s0 S1 S2 S3 S4 hb6
              go_wp2_with fail
              refine bodyPost_ret (v := .tuple #[.agg #[.string ⟨#[]⟩, .string ⟨#[]⟩, .bool false, .slice none 0 0], .iface 249 (.pointer (some (E 3)))]) ?_ rfl ?_
              · rw [results_cell_tmp rfl]
                go_simp
              · exact ⟨by first | exact HW.out | exact HW4.out, .inr ⟨_, _, _, none, 0, 0, rfl, HBD.out⟩⟩
        · have hkl' : k = ks.length := by omega
          have HP : Hid ((Tr.mk kd da ex (.slice a2 ls.length c2) ls : Lt).bare = fillT (rdG s e0) p (Tr.mk kd da ex (.slice ta ks.length tc) ks : Lt).bare ∧ (∀ x ∈ ls, x.1.size ≤ 140737488351232) ∧ (∀ x ∈ pre p d0 (Tr.mk kd da ex (.slice ta ks.length tc) ks : Lt), x.n.kind = kFile → (rdP s.ls s.T e0.F (pathOf x.path)).isSome = true)) := hidd ⟨by
              show (Tr.mk kd da ex () (Tr.maps (fun _ => ()) ls) : Nd) = fillT (rdG s e0) p (Tr.mk kd da ex () (Tr.maps (fun _ => ()) ks))
              rw [fillT, if_neg HKK.out, fillTs_eq, Tr.maps_eq, Tr.maps_eq, List.map_map]
              have hl : ls.length = ks.length := by rw [hI.len, hkl']
              congr 1
              apply List.ext_getElem
              · simp [hl]
              · intro i h1 h2
                simp only [List.length_map] at h1 h2
                have h3 := hI.eq i h1 h2
                simp only [List.getElem_map, Function.comp_apply]
                rw [show Tr.map (fun _ => ()) ls[i].2 = ls[i].2.bare from rfl, show Tr.map (fun _ => ()) ks[i].2 = ks[i].2.bare from rfl, h3.2, h3.1], fun x hx => by
              obtain ⟨i, hi, rfl⟩ := List.getElem_of_mem hx
              rw [(hI.eq i hi (by have := hI.len; omega)).1]
              exact ht.names _ (List.getElem_mem (by have := hI.len; omega : i < ks.length)), fun x hx hkx => by
              rw [pre] at hx
              rcases List.mem_cons.1 hx with rfl | hx
              · exact absurd hkx HKK.out
              · have := hI.all
                rw [hkl', List.take_of_length_le (Nat.le_refl _)] at this
                exact this x hx hkx⟩
          have hslt : ¬ ((k : Int) < (ks.length : Int)) := by omega
          have hon : Ow (fun g => w.heap.size + 1 + 2 ≤ g) wr 85 5 (.slice a2 ks.length c2) ks.length (kcells ls) := by
            have := hI.own
            rw [hkl', List.drop_of_length_le (Nat.le_refl _), List.append_nil] at this; exact this
          have d0' := hI.b1.cell (i := 0) rfl
          have d1 := hI.b1.cell (i := 1) rfl
          have d2 := hI.b1.cell (i := 2) rfl
          have s0 := hI.b3
          have e0' := s0.cell (i := 0) rfl
          have f0 := s0.frozen 0
          have s1 := s0.set 0 (.string kd)
          have e1 := s1.cell (i := 1) rfl
          have f1 := s1.frozen 1
          have s2 := s1.set 1 (.string da)
          have e2 := s2.cell (i := 2) rfl
          have f2 := s2.frozen 2
          have s3 := s2.set 2 (.bool ex)
          have e3 := s3.cell (i := 3) rfl
          have f3 := s3.frozen 3
          have s4 := s3.set 3 (.slice a2 ks.length c2)
          have r0 := s4.cell (i := 0) rfl
          have r1 := s4.cell (i := 1) rfl
          have r2 := s4.cell (i := 2) rfl
          have r3 := s4.cell (i := 3) rfl
          have hFF := ((((Fr.refl (fun b => b = w.heap.size + 1 + 1) wr).setCell (p := ⟨w.heap.size + 1 + 1, 0, none⟩) (.inl rfl) (.string kd)).setCell (p := ⟨w.heap.size + 1 + 1, 1, none⟩) (.inl rfl) (.string da)).setCell (p := ⟨w.heap.size + 1 + 1, 2, none⟩) (.inl rfl) (.bool ex)).setCell (p := ⟨w.heap.size + 1 + 1, 3, none⟩) (.inl rfl) (.slice a2 ks.length c2)
          have HOO := hidd (hon.fr hFF (fun b hb e => by have := (hon.blk b hb).1; omega))
          have HBB := hidd (hI.bel.trans (hFF.below hI.bel.size (fun b e => by omega)))
          have HFF := hidd hFF
          have HLL : Hid (ls.length = ks.length) := hidd (by rw [hI.len, hkl'])
          have HOK := hidd hI.ok
          have HIN := hidd hI.ins
          clear hI ht hon hFF s0 s1 s2 s3 s4
          go_wp2_with fail
          refine bodyPost_ret (v := .tuple #[.agg #[.string kd, .string da, .bool ex, .slice a2 ks.length c2], .nilIface]) ?_ rfl ?_
          · rw [results_cell_tmp rfl]
            go_simp
          · obtain ⟨h1, h2, h3⟩ := HP.out
            have hFF := HFF.out
            have hOO := HOO.out
            have hsF := hFF.size
            have hlk := HLL.out
            refine ⟨HBB.out, .inl ⟨a2, c2, ls, da, by rw [hlk]; rfl, h1, ?_, ?_, h3⟩⟩
            · refine Tr.Ok.mk' ?_ h2 (oks_iff.1 (oks_fr hFF ls HOK.out (inS_mono (fun b hb e => by omega) ls HIN.out)))
              simp only [Tr.v, Tr.kids]
              have := hOO.sl
              rw [hlk]; exact this
            · rw [Tr.In]
              refine ⟨fun _ b hb => ?_, inS_mono (fun b hb => by omega) ls HIN.out⟩
              have hb2 := hOO.blk b (by rw [hlk] at hb; exact hb)
              exact ⟨by omega, hb2.2⟩
end Go.Proofs.YtoemahhpheobkaaGreatDoor
