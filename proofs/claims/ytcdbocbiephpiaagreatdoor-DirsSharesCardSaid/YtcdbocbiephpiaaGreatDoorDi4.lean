/- Dirs: bare and filled trees. Condition: the trees are there. -/
import Derived.Test.YtcdbocbiephpiaaGreatDoorDiB
import Derived.Test.YtcdbocbiephpiaaGreatDoorPaK
namespace Go.Proofs.YtcdbocbiephpiaaGreatDoor
open Go.RowKit Go.Shelf

/-- A node's bytes in a bare tree. -/
def bd (t : Lt) : ByteArray := if t.kind = kFile then ⟨#[]⟩ else t.data
/-- A tree of its own whose files have no bytes. -/
def BareP (t : Lt) (w : World) (e : Ending) (w' : World) : Prop :=
  ∃ (a : Option Addr) (c : Nat) (ks : List (ByteArray × Lt)), e = .returned (.agg #[.string t.kind, .string (bd t), .bool t.exec, .slice a ks.length c]) ∧
    (Tr.mk t.kind (bd t) t.exec (.slice a ks.length c) ks : Lt).bare = bareT t.bare ∧ (Tr.mk t.kind (bd t) t.exec (.slice a ks.length c) ks : Lt).Ok w' ∧ (Tr.mk t.kind (bd t) t.exec (.slice a ks.length c) ks : Lt).In (fun b => w.heap.size ≤ b ∧ b < w'.heap.size) ∧ Below w.heap.size w w'

def BareQ (kd da' : ByteArray) (ex : Bool) (v : Value) (ks0 : List (ByteArray × Lt)) (da : ByteArray) (w : World) (e : Ending) (w' : World) : Prop :=
  ∃ (a : Option Addr) (c : Nat) (ks : List (ByteArray × Lt)), e = .returned (.agg #[.string kd, .string da', .bool ex, .slice a ks.length c]) ∧
    (Tr.mk kd da' ex (.slice a ks.length c) ks : Lt).bare = bareT (Tr.mk kd da ex v ks0 : Lt).bare ∧ (Tr.mk kd da' ex (.slice a ks.length c) ks : Lt).Ok w' ∧ (Tr.mk kd da' ex (.slice a ks.length c) ks : Lt).In (fun b => w.heap.size ≤ b ∧ b < w'.heap.size) ∧ Below w.heap.size w w'

set_option maxRecDepth 100000 in
set_option maxHeartbeats 4000000 in
theorem bare_any (m : Nat) : ∀ (t : Lt) (w : World), t.sz ≤ m → m ≤ 300 → t.Ok w → Calls Tryz.prog 30 #[nval t] w (BareP t w) := by
  induction m with
  | zero => intro t w hm; have := Tr.sz_kids t; omega
  | succ m ih =>
    intro t w hm hm3 ht
    obtain ⟨ta, tc, htv⟩ := ht.shape
    have hkl : t.kids.length ≤ m := by
      have h1 := Tr.sz_kids t
      have h2 : t.kids.length ≤ Tr.szs t.kids := by
        rw [← pres_len ⟨#[]⟩ 0]
        generalize t.kids = l
        clear ih hm ht htv h1
        induction l with
        | nil => simp
        | cons x r ih => obtain ⟨n, t⟩ := x; rw [pres, List.length_append, pre_cons]; simp only [List.length_cons]; omega
      omega
    have HKA : Hid (∀ i (h : i < t.kids.length), t.kids[i].2.sz ≤ m) := hidd (fun i h => by have := Tr.sz_lt (List.getElem_mem h); omega)
    obtain ⟨kd, da, ex, va, ks⟩ := t
    simp only [Tr.v, Tr.kids] at htv hkl HKA
    subst htv
    obtain ⟨da', hda⟩ : ∃ d, d = (if kd = kFile then (⟨#[]⟩ : ByteArray) else da) := ⟨_, rfl⟩
    rw [show BareP (.mk kd da ex (.slice ta ks.length tc) ks) w = BareQ kd da' ex (.slice ta ks.length tc) ks da w by funext e w'; rw [hda]; rfl]
    have hB0 : Below w.heap.size w ((w.alloc (.cells #[.string kd, .string da, .bool ex, .slice ta ks.length tc] 24)).alloc (.cells #[.string ⟨#[]⟩, .string ⟨#[]⟩, .bool false, .slice none 0 0] 24)) := ((Below.refl _ _).alloc (Nat.le_refl _) _).alloc (by simp) _
    have hq1 := Blk.new w [.string kd, .string da, .bool ex, .slice ta ks.length tc] 24
    have hq2 := Blk.new (w.alloc (.cells #[.string kd, .string da, .bool ex, .slice ta ks.length tc] 24)) [.string ⟨#[]⟩, .string ⟨#[]⟩, .bool false, .slice none 0 0] 24
    rw [show (w.alloc (.cells #[.string kd, .string da, .bool ex, .slice ta ks.length tc] 24)).heap.size = w.heap.size + 1 by simp] at hq2
    have hq1' := hq1.alloc (.cells #[.string ⟨#[]⟩, .string ⟨#[]⟩, .bool false, .slice none 0 0] 24)
    have hsz0 : ((w.alloc (.cells #[.string kd, .string da, .bool ex, .slice ta ks.length tc] 24)).alloc (.cells #[.string ⟨#[]⟩, .string ⟨#[]⟩, .bool false, .slice none 0 0] 24)).heap.size = w.heap.size + 2 := by simp
    have HCL := hidd (fun W (hW : Below w.heap.size w W) (hz : W.heap.size = w.heap.size + 2) => by
      have ht0 := ht.ob hW
      have hsl0 := ht0.sl
      have hoks0 : Oks _ ks := oks_iff.2 (fun x hx => ht0.kid (x := x) hx)
      simp only [Tr.v, Tr.kids] at hsl0
      have := clone_kids _ ks _ hsl0 hoks0 (by omega)
      rw [hz] at this
      exact this)
    unfold nval
    simp only [Tr.kind, Tr.data, Tr.exec, Tr.v]
    have fz := hq1'.frozen 1
    have fc := hq1'.cell (i := 1) rfl
    have k0 := hq1'.cell (i := 0) rfl
    clear hq1 hm
    rcases Bool.eq_false_or_eq_true (kd.toList == [102, 105, 108, 101]) with q1 | q1
    case' inl =>
      have hkk : kd = kFile := by
        have h1 : kd.toList = [102, 105, 108, 101] := by simpa using q1
        rw [← kFile_list, Lib.toList_data, Lib.toList_data] at h1
        exact toList_inj h1
      have Y1 := (Blk.new w [.string kd, .string ⟨#[]⟩, .bool ex, .slice ta ks.length tc] 24).alloc (.cells #[.string ⟨#[]⟩, .string ⟨#[]⟩, .bool false, .slice none 0 0] 24)
      have Y2 := Blk.new (w.alloc (.cells #[.string kd, .string ⟨#[]⟩, .bool ex, .slice ta ks.length tc] 24)) [.string ⟨#[]⟩, .string ⟨#[]⟩, .bool false, .slice none 0 0] 24
      rw [show (w.alloc (.cells #[.string kd, .string ⟨#[]⟩, .bool ex, .slice ta ks.length tc] 24)).heap.size = w.heap.size + 1 by simp] at Y2
      have X1 : Hid (Blk ((w.alloc (.cells #[.string kd, .string ⟨#[]⟩, .bool ex, .slice ta ks.length tc] 24)).alloc (.cells #[.string ⟨#[]⟩, .string ⟨#[]⟩, .bool false, .slice none 0 0] 24)) w.heap.size [.string kd, .string da', .bool ex, .slice ta ks.length tc] 24) := hidd (by rw [hda, if_pos hkk]; exact Y1)
      have X2 := hidd Y2
      have X3 : Hid (Below w.heap.size w ((w.alloc (.cells #[.string kd, .string ⟨#[]⟩, .bool ex, .slice ta ks.length tc] 24)).alloc (.cells #[.string ⟨#[]⟩, .string ⟨#[]⟩, .bool false, .slice none 0 0] 24))) := hidd (((Below.refl _ _).alloc (Nat.le_refl _) _).alloc (by simp) _)
      have X4 : Hid (((w.alloc (.cells #[.string kd, .string ⟨#[]⟩, .bool ex, .slice ta ks.length tc] 24)).alloc (.cells #[.string ⟨#[]⟩, .string ⟨#[]⟩, .bool false, .slice none 0 0] 24)).heap.size = w.heap.size + 2) := hidd (by simp)
      clear Y1 Y2
      have HDA := hidd hda
      clear hB0 hq1' hq2 hsz0 hkk hda
      go_enter Tryz.func30, Tryz.ntmps30
      go_upto_region 3 with fail
      generalize (w.alloc (.cells #[.string kd, .string ⟨#[]⟩, .bool ex, .slice ta ks.length tc] 24)).alloc (.cells #[.string ⟨#[]⟩, .string ⟨#[]⟩, .bool false, .slice none 0 0] 24) = w1 at *
      clear fz fc k0 q1
    case' inr =>
      have hkk : kd ≠ kFile := by
        rintro rfl
        rw [kFile_list] at q1
        cases q1
      have HDA := hidd hda
      have X1 : Hid (Blk ((w.alloc (.cells #[.string kd, .string da, .bool ex, .slice ta ks.length tc] 24)).alloc (.cells #[.string ⟨#[]⟩, .string ⟨#[]⟩, .bool false, .slice none 0 0] 24)) w.heap.size [.string kd, .string da', .bool ex, .slice ta ks.length tc] 24) := hidd (by rw [hda, if_neg hkk]; exact hq1')
      have X2 := hidd hq2
      have X3 := hidd hB0
      have X4 := hidd hsz0
      clear hkk hda fz fc hq1' hq2 hB0 hsz0
      go_enter Tryz.func30, Tryz.ntmps30
      go_upto_region 3 with fail
      generalize (w.alloc (.cells #[.string kd, .string da, .bool ex, .slice ta ks.length tc] 24)).alloc (.cells #[.string ⟨#[]⟩, .string ⟨#[]⟩, .bool false, .slice none 0 0] 24) = w1 at *
      clear k0 q1
    all_goals
      have hq1 := X1.out
      have hq2 := X2.out
      have hB0 := X3.out
      have hz1 := X4.out
      have p3 := hq1.cell (i := 3) rfl
      clear X1 X2 X3 X4
      go_wp2_with fail
      refine (HCL.out w1 hB0 hz1).mono ?_
      rintro e w2 ⟨a2, c2, rfl, hown, hb2⟩
      have hb2' : Below w.heap.size w w2 := hB0.trans (hb2.mono (by omega))
      have hown : Ow (fun g => w.heap.size + 2 ≤ g) w2 70 5 (.slice a2 ks.length c2) ks.length (kcells ks) := hown.mono (fun g hg => by omega)
      have hk1 := hq1.below hb2 (by omega)
      have hk2 := hq2.below hb2 (by omega)
      have f3 := hk1.frozen 3
      have hk1s := hk1.set 3 (.slice a2 ks.length c2)
      have hk2s := hk2.other (a := ⟨w.heap.size, 3, none⟩) (by simp) (.slice a2 ks.length c2)
      have howns := hown.set (a := ⟨w.heap.size, 3, none⟩) (by simp) (.slice a2 ks.length c2)
      have hb3 := hb2'.setCell (p := ⟨w.heap.size, 3, none⟩) (Nat.le_refl _) (.slice a2 ks.length c2)
      have x3 := hk1.cell (i := 3) rfl
      have z3 := hk1s.cell (i := 3) rfl
      clear hk1 hk2 hown hb2' hb2 hB0 hq1 hq2 HCL hz1 p3
      go_wp2_with fail
      clear x3 z3 f3
      go_loopw [3, 15] (fun _ t wr => ∃ (k : Nat) (ls : List (ByteArray × Lt)), k ≤ ks.length ∧ t = .int .i64 (k : Int) ∧ ls.length = k ∧ (∀ i (h : i < ls.length) (h' : i < ks.length), ls[i].1 = ks[i].1 ∧ ls[i].2.bare = bareT ks[i].2.bare) ∧
          Ow (fun g => w.heap.size + 2 ≤ g) wr 70 5 (.slice a2 ks.length c2) ks.length (kcells (ls ++ ks.drop k)) ∧ Oks wr ls ∧ InS (fun b => w.heap.size + 2 ≤ b ∧ b < wr.heap.size ∧ (Value.slice a2 ks.length c2).ownBlock ≠ some b) ls ∧
          Blk wr w.heap.size [.string kd, .string da', .bool ex, .slice a2 ks.length c2] 24 ∧ Blk wr (w.heap.size + 1) [.string ⟨#[]⟩, .string ⟨#[]⟩, .bool false, .slice none 0 0] 24 ∧ Below w.heap.size w wr) (fun _ t _ => ks.length - (intOf t).toNat)
      case atStart => exact ⟨0, [], Nat.zero_le _, rfl, rfl, fun i h => by simp at h, howns, by rw [Oks]; trivial, by rw [InS]; trivial, hk1s, hk2s, hb3⟩
      case round =>
        obtain ⟨k, ls, hk, rfl, hll, heq, hown, hok, hin, hb1, hb2, hbel⟩ := hrel
        have hcA := hb1.cell (i := 3) rfl
        clear hk1s hk2s howns hb3
        by_cases hlt : k < ks.length
        · have hxs := HKA.out k hlt
          have hxk := (ht.ob hbel).get hlt
          have hnm := ht.names _ (List.getElem_mem hlt)
          have hsl := hown.sl
          have hlen : (ls ++ ks.drop k).length = ks.length := by rw [List.length_append, List.length_drop]; omega
          have hdk : ks.drop k = ks[k] :: ks.drop (k + 1) := by rw [List.getElem_cons_drop]
          obtain ⟨g, off, rfl, hgl, a0, a1, a2, a3, a4⟩ := sl_at5 (l := ls ++ ks.drop k) (by rw [hlen]; exact hsl) (i := k) (by rw [hlen]; exact hlt)
          have hgk : (ls ++ ks.drop k)[k]'(by rw [hlen]; exact hlt) = ks[k] := by
            rw [List.getElem_append_right (by omega)]
            simp only [hll, Nat.sub_self]
            simp
          rw [hgk] at a0 a1 a2 a3 a4
          simp only [Tr.kids] at hxk hnm
          have p1 : (0 : Int) ≤ (k : Int) := by omega
          have p2 : (k : Int) < (ks.length : Int) := by omega
          obtain ⟨x, hx⟩ : ∃ x, ks[k] = x := ⟨_, rfl⟩
          have HX : Hid (ks[k] = x) := hidd hx
          rw [hx] at a0 a1 a2 a3 a4 hxk hxs hnm hdk
          obtain ⟨ya, yc, hyv⟩ := hxk.shape
          have HC := ih x.2 wr.drew hxs (by omega) (hxk.ob ((Below.refl _ _).drew))
          obtain ⟨nx, ⟨kx, dx, ex', vx, ksx⟩⟩ := x
          simp only [Tr.v, Tr.kids, Tr.kind, Tr.data, Tr.exec] at hyv a1 a2 a3 a4
          subst hyv
          unfold nval at HC
          rw [show BareP (.mk kx dx ex' (.slice ya ksx.length yc) ksx) wr.drew = BareQ kx (if kx = kFile then ⟨#[]⟩ else dx) ex' (.slice ya ksx.length yc) ksx dx wr.drew from rfl] at HC
          simp only [Tr.v, Tr.kind, Tr.data, Tr.exec] at HC
          generalize (if kx = kFile then (⟨#[]⟩ : ByteArray) else dx) = dx' at HC
          have HCH := hidd HC
          have HDK := hidd hdk
          have hfz := fun j => hown.frozenT j
          have HFZ : Hid (∀ W, Below wr.heap.size wr.drew W → ∀ j, W.frozen? ⟨g, j, none⟩ = false) := hidd (fun W hb j => (hown.drew.ob hb).frozenT j)
          have HB1 : Hid (∀ W, Below wr.heap.size wr.drew W → W.cell? ⟨w.heap.size, 3, none⟩ = some (.slice (some ⟨g, off, none⟩) ks.length c2)) := hidd (fun W hb => (hb1.drew.below hb hb1.lt).cell (i := 3) rfl)
          have HA : Hid (∀ W, Below wr.heap.size wr.drew W → W.cell? ⟨g, off + k * 5 + 1, none⟩ = some (.string kx) ∧ W.cell? ⟨g, off + k * 5 + 2, none⟩ = some (.string dx) ∧ W.cell? ⟨g, off + k * 5 + 3, none⟩ = some (.bool ex') ∧ W.cell? ⟨g, off + k * 5 + 4, none⟩ = some (.slice ya ksx.length yc)) := hidd (fun W hb =>
            ⟨(hb.cell (p := ⟨g, _, none⟩) hgl).trans a1, (hb.cell (p := ⟨g, _, none⟩) hgl).trans a2, (hb.cell (p := ⟨g, _, none⟩) hgl).trans a3, (hb.cell (p := ⟨g, _, none⟩) hgl).trans a4⟩)
          clear hx hdk hgk hsl hlen HC hnm hfz hxk hgl
          go_wp2_with fail
          go_region_law (first
            | (go_simp; go_at_call 30; (with_reducible refine HCH.out.mono ?_); rintro e w5 ⟨xa, xc, ks', rfl, hbr, hok', hin', hb5⟩; have hb5x : Below wr.heap.size wr w5 := (Below.refl _ _).drew.trans hb5; have q3 := HB1.out w5 hb5; have z1 := HFZ.out w5 hb5 (off + k * 5 + 1); have z2 := HFZ.out w5 hb5 (off + k * 5 + 2); have z3 := HFZ.out w5 hb5 (off + k * 5 + 3); have z4 := HFZ.out w5 hb5 (off + k * 5 + 4); obtain ⟨r1, r2, r3, r4⟩ := HA.out w5 hb5))
          all_goals
            obtain ⟨r1, r2, r3, r4, r5⟩ := copy_rel (nx := nx) (rest := ks.drop (k + 1)) (y := .mk kx dx ex' (.slice ya ksx.length yc) ksx) (by rw [HDK.out] at hown; exact hown) hll hok hin hb5x hok' hin'
            have HEQ : Hid (∀ i (h : i < (ls ++ [((nx, .mk kx dx' ex' (.slice xa ks'.length xc) ks') : ByteArray × Lt)]).length) (h' : i < ks.length), (ls ++ [((nx, .mk kx dx' ex' (.slice xa ks'.length xc) ks') : ByteArray × Lt)])[i].1 = ks[i].1 ∧ (ls ++ [((nx, .mk kx dx' ex' (.slice xa ks'.length xc) ks') : ByteArray × Lt)])[i].2.bare = bareT ks[i].2.bare) := hidd (fun i h h' => by
              by_cases e : i < ls.length
              · rw [List.getElem_append_left e]; exact heq i e h'
              · obtain rfl : i = k := by simp at h; omega
                rw [List.getElem_append_right (by omega), HX.out]
                simp only [hll, Nat.sub_self, List.getElem_cons_zero]
                exact ⟨trivial, hbr⟩)
            have hb17 := hb1.fr r4 (by omega)
            have hb27 := hb2.fr r4 (by omega)
            have hbel7 : Below w.heap.size w (put4 w5 g (off + k * 5) kx dx' ex' (.slice xa ks'.length xc)) := hbel.trans (r4.below hbel.size (fun b e => by omega))
            have HLL : Hid ((ls ++ [((nx, .mk kx dx' ex' (.slice xa ks'.length xc) ks') : ByteArray × Lt)]).length = k + 1) := hidd (by simp [hll])
            unfold put4 at r1 r2 r3 hb17 hb27 hbel7
            have H1 := hidd r1
            have H2 := hidd r2
            have H3 := hidd r3
            clear hb1 hb2 hcA a0 a1 a2 a3 a4
            go_wp2_with fail
            go_roundw
            case rel => exact ⟨k + 1, _, hlt, by go_num, HLL.out, HEQ.out, H1.out, H2.out, H3.out, hb17, hb27, hbel7⟩
            case measure => simp [intOf]; omega
        · have hkk : k = ks.length := by omega
          have HP : Hid ((Tr.mk kd da' ex (.slice a2 ls.length c2) ls : Lt).bare = bareT (Tr.mk kd da ex (.slice ta ks.length tc) ks : Lt).bare ∧ (∀ x ∈ ls, x.1.size ≤ 140737488351232) ∧ Oks wr ls ∧ InS (fun b => w.heap.size + 2 ≤ b ∧ b < wr.heap.size ∧ (Value.slice a2 ks.length c2).ownBlock ≠ some b) ls) := hidd ⟨by
              rw [show bareT (Tr.mk kd da ex (.slice ta ks.length tc) ks : Lt).bare = (bareT (Tr.mk kd da ex (.slice ta ks.length tc) ks : Lt)).bare from bareT_map _ _, bareT, ← HDA.out, Tr.bare_iff]
              refine ⟨rfl, rfl, rfl, by simp only [Tr.kids, bareTs_eq, List.length_map]; omega, fun i h h' => ?_⟩
              simp only [Tr.kids, bareTs_eq, List.length_map] at h h'
              simp only [Tr.kids, bareTs_eq, List.getElem_map]
              have h8 := heq i h h'
              exact ⟨h8.1, h8.2.trans (bareT_map _ _)⟩, fun x hx => by
              obtain ⟨i, hi, rfl⟩ := List.getElem_of_mem hx
              rw [(heq i hi (by omega)).1]
              exact ht.names _ (List.getElem_mem (by omega : i < ks.length)), hok, hin⟩
          have hslt : ¬ ((k : Int) < (ks.length : Int)) := by omega
          have hon : Ow (fun g => w.heap.size + 2 ≤ g) wr 70 5 (.slice a2 ks.length c2) ks.length (kcells ls) := by
            rw [hkk, List.drop_of_length_le (Nat.le_refl _), List.append_nil] at hown; exact hown
          have d0 := hb1.cell (i := 0) rfl
          have d1 := hb1.cell (i := 1) rfl
          have d2 := hb1.cell (i := 2) rfl
          have e0 := hb2.cell (i := 0) rfl
          have f0 := hb2.frozen 0
          have s1 := hb2.set 0 (.string kd)
          have e1 := s1.cell (i := 1) rfl
          have f1 := s1.frozen 1
          have s2 := s1.set 1 (.string da')
          have e2 := s2.cell (i := 2) rfl
          have f2 := s2.frozen 2
          have s3 := s2.set 2 (.bool ex)
          have e3 := s3.cell (i := 3) rfl
          have f3 := s3.frozen 3
          have s4 := s3.set 3 (.slice a2 ks.length c2)
          have r0 := s4.cell (i := 0) rfl
          have r1 := s4.cell (i := 1) rfl
          have r2 := s4.cell (i := 2) rfl
          have r3 := s4.cell (i := 3) rfl
          have hFF := ((((Fr.refl (fun b => b = w.heap.size + 1) wr).setCell (p := ⟨w.heap.size + 1, 0, none⟩) (.inl rfl) (.string kd)).setCell (p := ⟨w.heap.size + 1, 1, none⟩) (.inl rfl) (.string da')).setCell (p := ⟨w.heap.size + 1, 2, none⟩) (.inl rfl) (.bool ex)).setCell (p := ⟨w.heap.size + 1, 3, none⟩) (.inl rfl) (.slice a2 ks.length c2)
          have hOO := hon.fr hFF (fun b hb e => by have := (hon.blk b hb).1; omega)
          have hBB := hbel.trans (hFF.below hbel.size (fun b e => by omega))
          have HOO := hidd hOO
          have HFF := hidd hFF
          have HLL := hidd hll
          have HKK := hidd hkk
          clear hok hin heq ht hown hon hOO hFF hll hkk hb1 hb2 hbel s1 s2 s3
          go_wp2_with fail
          refine bodyPost_ret (v := .agg #[.string kd, .string da', .bool ex, .slice a2 ks.length c2]) ?_ rfl ?_
          · rw [results_cell1 rfl]
            go_simp
          · obtain ⟨h1, h2, h3, h4⟩ := HP.out
            have hFF := HFF.out
            have hOO := HOO.out
            have hsF := hFF.size
            have hlk : ls.length = ks.length := by rw [HLL.out, HKK.out]
            refine ⟨a2, c2, ls, by rw [hlk], h1, ?_, ?_, hBB⟩
            · refine Tr.Ok.mk' ?_ h2 (oks_iff.1 (oks_fr hFF ls h3 (inS_mono (fun b hb e => by omega) ls h4)))
              simp only [Tr.v, Tr.kids]
              have := hOO.sl
              rw [hlk]; exact this
            · rw [Tr.In]
              refine ⟨fun _ b hb => ?_, inS_mono (fun b hb => by omega) ls h4⟩
              have hb2 := hOO.blk b (by rw [hlk] at hb; exact hb)
              exact ⟨by omega, hb2.2⟩

end Go.Proofs.YtcdbocbiephpiaaGreatDoor
