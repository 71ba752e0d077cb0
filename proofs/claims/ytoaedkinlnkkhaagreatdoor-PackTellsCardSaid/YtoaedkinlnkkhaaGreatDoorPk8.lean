/- The contract of the document's FirstOf. Condition: the text's size fits. -/
import Derived.Test.YtoaedkinlnkkhaaGreatDoorPk7
namespace Go.Proofs.YtoaedkinlnkkhaaGreatDoor
open Go.RowKit

def FtPost (X : Except Nat (Nd × List UInt8)) (w : World) (e : Ending) (w' : World) : Prop :=
  (match X with
   | .error n => e = .returned (.tuple #[.agg #[.string ⟨#[]⟩, .string ⟨#[]⟩, .bool false, .slice none 0 0], .string ⟨#[]⟩, .int .i64 (n : Int)])
   | .ok (x, r) => ∃ (kd da : ByteArray) (ex : Bool) (a : Option Addr) (cap : Nat) (ks : List (ByteArray × Lt)), e = .returned (.tuple #[.agg #[.string kd, .string da, .bool ex, .slice a ks.length cap], .string (bstr r), .int .i64 0]) ∧
      (Tr.mk kd da ex (.slice a ks.length cap) ks : Lt).bare = x ∧ (Tr.mk kd da ex (.slice a ks.length cap) ks : Lt).Ok w') ∧ Below w.heap.size w w'
theorem ft_err {X : Except Nat (Nd × List UInt8)} {n : Nat} {w w' : World} (hX : X = .error n) (hF : Below w.heap.size w w') :
    FtPost X w (.returned (.tuple #[.agg #[.string ⟨#[]⟩, .string ⟨#[]⟩, .bool false, .slice none 0 0], .string ⟨#[]⟩, .int .i64 (n : Int)])) w' := by
  subst hX
  exact ⟨rfl, hF⟩

set_option maxRecDepth 100000 in
set_option maxHeartbeats 4000000 in
theorem firstOf_any (s : ByteArray) (w : World) (hs : s.size ≤ 4000000) :
    Calls Tryz.prog 24 #[.string s] w (FtPost (firstP s) w) := by
  by_cases hbig : 20000 < s.size
  · have z : decide ((20000 : Int) < (s.size : Int)) = true := decide_eq_true (by omega)
    have z' : decide (20000 < s.size) = true := decide_eq_true hbig
    have hz1 := Blk.new w [.string ⟨#[]⟩, .string ⟨#[]⟩, .bool false, .slice none 0 0] 24
    have hF1 := (Below.refl w.heap.size w).alloc (Nat.le_refl _) (.cells #[.string ⟨#[]⟩, .string ⟨#[]⟩, .bool false, .slice none 0 0] 24)
    have hX0 : Hid (firstP s = .error 2) := hidd (by unfold firstP; rw [if_pos hbig])
    go_enter Tryz.func24, Tryz.ntmps24
    go_upto_region 1 with fail
    generalize w.alloc (.cells #[.string ⟨#[]⟩, .string ⟨#[]⟩, .bool false, .slice none 0 0] 24) = w1 at *
    have y0 := hz1.cell (i := 0) rfl
    have y1 := hz1.cell (i := 1) rfl
    have y2 := hz1.cell (i := 2) rfl
    have y3 := hz1.cell (i := 3) rfl
    have f0 := hz1.frozen 0
    have f1 := hz1.frozen 1
    have f2 := hz1.frozen 2
    have f3 := hz1.frozen 3
    have s4 := hz1.set4 (x0 := (Value.string ⟨#[]⟩)) (x1 := (Value.string ⟨#[]⟩)) (x2 := (Value.bool false)) (x3 := (Value.slice none 0 0))
    have r0 := s4.cell (i := 0) rfl
    have r1 := s4.cell (i := 1) rfl
    have r2 := s4.cell (i := 2) rfl
    have r3 := s4.cell (i := 3) rfl
    have HFR := hidd (hF1.trans (((Fr.refl (fun b => b = w.heap.size) _).set4 (p := w.heap.size) (.inl rfl) ((Value.string ⟨#[]⟩)) ((Value.string ⟨#[]⟩)) ((Value.bool false)) ((Value.slice none 0 0))).below hF1.size (fun b e => by omega)))
    have HX := hidd (hX0.out)
    clear s4 hz1 hF1 
    go_wp2_with fail
    refine bodyPost_ret (v := .tuple #[.agg #[.string ⟨#[]⟩, .string ⟨#[]⟩, .bool false, .slice none 0 0], .string ⟨#[]⟩, .int .i64 2]) ?_ rfl ?_
    · rw [results_cell_tmp2 rfl]
      go_simp
    · exact ft_err HX.out HFR.out
  · have z : decide ((20000 : Int) < (s.size : Int)) = false := decide_eq_false (by omega)
    have z' : decide (20000 < s.size) = false := decide_eq_false hbig
    have hz1 := (Blk.new w [.string ⟨#[]⟩, .string ⟨#[]⟩, .bool false, .slice none 0 0] 24).alloc (.cells #[.string s, .int .i64 0, .int .i64 0] 93)
    have hr : RgAt ((w.alloc (.cells #[.string ⟨#[]⟩, .string ⟨#[]⟩, .bool false, .slice none 0 0] 24)).alloc (.cells #[.string s, .int .i64 0, .int .i64 0] 93)) (w.heap.size + 1) s 0 0 := by
      have := Blk.new (w.alloc (.cells #[.string ⟨#[]⟩, .string ⟨#[]⟩, .bool false, .slice none 0 0] 24)) [.string s, .int .i64 0, .int .i64 0] 93
      rw [show (w.alloc (.cells #[.string ⟨#[]⟩, .string ⟨#[]⟩, .bool false, .slice none 0 0] 24)).heap.size = w.heap.size + 1 by simp] at this
      exact this
    have hF1 := ((Below.refl w.heap.size w).alloc (Nat.le_refl _) (.cells #[.string ⟨#[]⟩, .string ⟨#[]⟩, .bool false, .slice none 0 0] 24)).alloc (by simp) (.cells #[.string s, .int .i64 0, .int .i64 0] 93)
    have hC := nodeR_any (w.heap.size + 1) s hs 9 0 0 0 _ rfl (by omega) hr (by omega)
    rw [List.drop_zero] at hC
    have HC : Hid (Calls Tryz.prog 40 #[.pointer (some ⟨w.heap.size + 1, 0, none⟩), .int .i64 0] _ (NrPost (nodeP 9 0 s.data.toList) (w.heap.size + 1) s _)) := hidd hC
    have HR : Hid (firstP s = match nodeP 9 0 s.data.toList with
      | .error e => .error e
      | .ok (x, _, r) => if treeE x = 0 then .ok (x, r) else .error (treeE x)) := hidd (by unfold firstP; rw [if_neg hbig]; rfl)
    clear hC hr hbig
    go_enter Tryz.func24, Tryz.ntmps24
    go_wp2_with fail
    refine HC.out.mono ?_
    rintro e w3 ⟨hq, hf3⟩
    have hz3 := hz1.fr hf3 (by omega)
    have hs3 : w.heap.size + 2 ≤ w3.heap.size := by have := hf3.size; simp at this; omega
    have n1 : ¬ (w3.heap.size = w.heap.size) := by omega
    have n2 : ¬ (w.heap.size = w3.heap.size) := by omega
    have hF3 : Below w.heap.size w w3 := hF1.trans (hf3.below (by simp; omega) (fun b e => by omega))
    clear hz1 hF1 hf3 HC
    cases hX3 : nodeP 9 0 s.data.toList with
    | error en =>
      rw [hX3] at hq
      simp only at hq
      subst hq
      have hen : 0 < en := by rcases nodeP_err _ _ _ _ hX3 with h | h | h <;> omega
      have k1 : decide ((0 : Int) < (en : Int)) = true := decide_eq_true (by omega)
      have k1' : decide (0 < en) = true := decide_eq_true hen
      have k2 : ((en : Int) == 0) = false := by simp; omega
      have k3 : (en == 0) = false := by simp; omega
      have hX0 : Hid (firstP s = .error en) := hidd (by rw [HR.out, hX3])
      have hz4 := hz3.alloc (.cells #[.string ⟨#[]⟩, .string ⟨#[]⟩, .bool false, .slice none 0 0] 24)
      have hF4 := hF3.alloc hF3.size (.cells #[.string ⟨#[]⟩, .string ⟨#[]⟩, .bool false, .slice none 0 0] 24)
      clear hz3 hF3 hX3 HR
      go_upto_region 8 with fail
      generalize w3.alloc (.cells #[.string ⟨#[]⟩, .string ⟨#[]⟩, .bool false, .slice none 0 0] 24) = w4 at *
      have y0 := hz4.cell (i := 0) rfl
      have y1 := hz4.cell (i := 1) rfl
      have y2 := hz4.cell (i := 2) rfl
      have y3 := hz4.cell (i := 3) rfl
      have f0 := hz4.frozen 0
      have f1 := hz4.frozen 1
      have f2 := hz4.frozen 2
      have f3 := hz4.frozen 3
      have s4 := hz4.set4 (x0 := (Value.string ⟨#[]⟩)) (x1 := (Value.string ⟨#[]⟩)) (x2 := (Value.bool false)) (x3 := (Value.slice none 0 0))
      have r0 := s4.cell (i := 0) rfl
      have r1 := s4.cell (i := 1) rfl
      have r2 := s4.cell (i := 2) rfl
      have r3 := s4.cell (i := 3) rfl
      have HFR := hidd (hF4.trans (((Fr.refl (fun b => b = w.heap.size) _).set4 (p := w.heap.size) (.inl rfl) ((Value.string ⟨#[]⟩)) ((Value.string ⟨#[]⟩)) ((Value.bool false)) ((Value.slice none 0 0))).below hF4.size (fun b e => by omega)))
      have HX := hidd (hX0.out)
      clear s4 hz4 hF4 
      go_wp2_with fail
      refine bodyPost_ret (v := .tuple #[.agg #[.string ⟨#[]⟩, .string ⟨#[]⟩, .bool false, .slice none 0 0], .string ⟨#[]⟩, .int .i64 (en : Int)]) ?_ rfl ?_
      · rw [results_cell_tmp2 rfl]
        go_simp
      · exact ft_err HX.out HFR.out
    | ok t =>
      obtain ⟨x, c2, r2⟩ := t
      rw [hX3] at hq
      simp only at hq
      obtain ⟨kd, da, ex, xa, xc, ks', b2, rfl, hbr, hok', hin', hb2, hdr2, h3⟩ := hq
      have hrl : r2.length = s.size - b2 := by rw [← hdr2, List.length_drop, size_toList]
      have hz4 := hz3.alloc (.cells #[.string kd, .string da, .bool ex, .slice xa ks'.length xc] 24)
      have hd4 := Blk.new w3 [.string kd, .string da, .bool ex, .slice xa ks'.length xc] 24
      have hr4 := Blk.alloc h3 (.cells #[.string kd, .string da, .bool ex, .slice xa ks'.length xc] 24)
      have hF4 := hF3.alloc hF3.size (.cells #[.string kd, .string da, .bool ex, .slice xa ks'.length xc] 24)
      have hok4 := hok'.alloc (.cells #[.string kd, .string da, .bool ex, .slice xa ks'.length xc] 24)
      have x1 := hr4.cell (i := 1) rfl
      have d0 := hd4.cell (i := 0) rfl
      have d1 := hd4.cell (i := 1) rfl
      have d2 := hd4.cell (i := 2) rfl
      have d3 := hd4.cell (i := 3) rfl
      · obtain ⟨X, hX⟩ : ∃ X, s.extract b2 s.size = X := ⟨_, rfl⟩
        have HXE : Hid (X = bstr r2) := hidd (by
          rw [← hX]; apply ba_ext; rw [bstr_list, Lib.extract_data, hdr2, List.take_of_length_le (by omega)])
        have HXX := hidd hX
        clear hX
        have p0 : (0 : Int) ≤ (b2 : Int) := by omega
        have p1 : (b2 : Int) ≤ (s.size : Int) := by omega
        have hte : treeE x = treeE (Tr.mk kd da ex (.slice xa ks'.length xc) ks' : Lt) := by rw [← hbr]; exact treeE_map _ _
        have hCT := treeErr_any (Tr.mk kd da ex (.slice xa ks'.length xc) ks' : Lt) _ hok4
        obtain ⟨C, hCe⟩ : ∃ C, treeE (Tr.mk kd da ex (.slice xa ks'.length xc) ks' : Lt) = C := ⟨_, rfl⟩
        rw [hCe] at hCT hte
        unfold nval at hCT
        simp only [Tr.kind, Tr.data, Tr.exec, Tr.v] at hCT
        have HCT := hidd hCT
        have HX1 : Hid (firstP s = if C = 0 then .ok (x, r2) else .error C) := hidd (by rw [HR.out, hX3]; simp only; rw [hte])
        have HBR := hidd hbr
        have HOK := hidd hok4
        have HIN : Hid ((Tr.mk kd da ex (.slice xa ks'.length xc) ks' : Lt).In (fun b => ¬ (b = w.heap.size))) := hidd (in_mono (fun b hb e => by have := hb.1; simp at this; omega) _ hin')
        clear hCT hz3 hF3 hX3 HR hbr hok' hin' hdr2 h3 hrl hd4 hr4 hok4 hte hCe
        go_wp2_with fail
        refine HCT.out.mono ?_
        rintro e w5 ⟨rfl, hb5⟩
        have hz5 := hz4.below hb5 hz4.lt
        have hF5 := hF4.trans (hb5.mono hF4.size)
        have hok5 := HOK.out.ob hb5
        have e0 := (hb5.cell (p := ⟨w3.heap.size, 0, none⟩) (by simp)).trans d0
        have e1 := (hb5.cell (p := ⟨w3.heap.size, 1, none⟩) (by simp)).trans d1
        have e2 := (hb5.cell (p := ⟨w3.heap.size, 2, none⟩) (by simp)).trans d2
        have e3 := (hb5.cell (p := ⟨w3.heap.size, 3, none⟩) (by simp)).trans d3
        have x5 := (hb5.cell (p := ⟨w.heap.size + 1, 1, none⟩) (by simp; omega)).trans x1
        clear hz4 hF4 hb5 d0 d1 d2 d3 x1 HOK HCT
        by_cases h0 : C = 0
        · have HX := hidd (HX1.out.trans (if_pos h0))
          subst h0
          have hFz := (Fr.refl (fun b => b = w.heap.size) w5).set4 (p := w.heap.size) (.inl rfl) (.string kd) (.string da) (.bool ex) (.slice xa ks'.length xc)
          have HOZ := hidd (ok_fr hFz _ hok5 HIN.out)
          clear hok5 hFz HX1
          have y0 := hz5.cell (i := 0) rfl
          have y1 := hz5.cell (i := 1) rfl
          have y2 := hz5.cell (i := 2) rfl
          have y3 := hz5.cell (i := 3) rfl
          have f0 := hz5.frozen 0
          have f1 := hz5.frozen 1
          have f2 := hz5.frozen 2
          have f3 := hz5.frozen 3
          have s4 := hz5.set4 (x0 := (Value.string kd)) (x1 := (Value.string da)) (x2 := (Value.bool ex)) (x3 := (Value.slice xa ks'.length xc))
          have r0 := s4.cell (i := 0) rfl
          have r1 := s4.cell (i := 1) rfl
          have r2 := s4.cell (i := 2) rfl
          have r3 := s4.cell (i := 3) rfl
          have HFR := hidd (hF5.trans (((Fr.refl (fun b => b = w.heap.size) _).set4 (p := w.heap.size) (.inl rfl) ((Value.string kd)) ((Value.string da)) ((Value.bool ex)) ((Value.slice xa ks'.length xc))).below hF5.size (fun b e => by omega)))
          clear s4 hz5 hF5
          go_wp2_with fail
          go_region
          all_goals
            go_wp2_with fail
            refine bodyPost_ret (v := .tuple #[.agg #[.string kd, .string da, .bool ex, .slice xa ks'.length xc], .string X, .int .i64 0]) ?_ rfl ?_
            · rw [results_cell_tmp2 rfl]
              (try rw [HXX.out])
              go_simp
            · rw [HX.out]
              exact ⟨⟨kd, da, ex, xa, xc, ks', by rw [HXE.out], HBR.out, HOZ.out.ob (Below.refl _ _).drew⟩, HFR.out.drew⟩
        · have HX0 := hidd (HX1.out.trans (if_neg h0))
          have g1 : decide ((0 : Int) < (C : Int)) = true := decide_eq_true (by omega)
          have g1' : decide (0 < C) = true := decide_eq_true (by omega)
          clear hok5 HX1
          have y0 := hz5.cell (i := 0) rfl
          have y1 := hz5.cell (i := 1) rfl
          have y2 := hz5.cell (i := 2) rfl
          have y3 := hz5.cell (i := 3) rfl
          have f0 := hz5.frozen 0
          have f1 := hz5.frozen 1
          have f2 := hz5.frozen 2
          have f3 := hz5.frozen 3
          have s4 := hz5.set4 (x0 := (Value.string ⟨#[]⟩)) (x1 := (Value.string ⟨#[]⟩)) (x2 := (Value.bool false)) (x3 := (Value.slice none 0 0))
          have r0 := s4.cell (i := 0) rfl
          have r1 := s4.cell (i := 1) rfl
          have r2 := s4.cell (i := 2) rfl
          have r3 := s4.cell (i := 3) rfl
          have HFR := hidd (hF5.trans (((Fr.refl (fun b => b = w.heap.size) _).set4 (p := w.heap.size) (.inl rfl) ((Value.string ⟨#[]⟩)) ((Value.string ⟨#[]⟩)) ((Value.bool false)) ((Value.slice none 0 0))).below hF5.size (fun b e => by omega)))
          have HX := hidd (HX0.out)
          clear s4 hz5 hF5 
          go_wp2_with fail
          refine bodyPost_ret (v := .tuple #[.agg #[.string ⟨#[]⟩, .string ⟨#[]⟩, .bool false, .slice none 0 0], .string ⟨#[]⟩, .int .i64 (C : Int)]) ?_ rfl ?_
          · rw [results_cell_tmp2 rfl]
            go_simp
          · exact ft_err HX.out HFR.out
end Go.Proofs.YtoaedkinlnkkhaaGreatDoor
