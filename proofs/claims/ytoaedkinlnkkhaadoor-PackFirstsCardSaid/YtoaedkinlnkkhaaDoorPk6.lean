/- The contract of pack.Read. Condition: the text's size fits, the variables read as listed. -/
import Derived.Test.YtoaedkinlnkkhaaDoorPk5
namespace Go.Proofs.YtoaedkinlnkkhaaDoor
open Go.RowKit

def RpPost (E : Nat → Addr) (X : Except Nat Nd) (w : World) (e : Ending) (w' : World) : Prop :=
  (match X with
   | .error n => ∃ g, e = .returned (.tuple #[.agg #[.string ⟨#[]⟩, .string ⟨#[]⟩, .bool false, .slice none 0 0], erv E g]) ∧ erv E g = evc E n
   | .ok x => ∃ (kd da : ByteArray) (ex : Bool) (a : Option Addr) (cap : Nat) (ks : List (ByteArray × Lt)), e = .returned (.tuple #[.agg #[.string kd, .string da, .bool ex, .slice a ks.length cap], .nilIface]) ∧
      (Tr.mk kd da ex (.slice a ks.length cap) ks : Lt).bare = x ∧ (Tr.mk kd da ex (.slice a ks.length cap) ks : Lt).Ok w') ∧ Below w.heap.size w w'
theorem rp_err {E : Nat → Addr} {X : Except Nat Nd} {n g : Nat} {w w' : World} (hX : X = .error n) (hg : erv E g = evc E n) (hF : Below w.heap.size w w') :
    RpPost E X w (.returned (.tuple #[.agg #[.string ⟨#[]⟩, .string ⟨#[]⟩, .bool false, .slice none 0 0], erv E g])) w' := by
  subst hX
  exact ⟨⟨g, rfl, hg⟩, hF⟩

set_option maxRecDepth 100000 in
set_option maxHeartbeats 4000000 in
theorem read_pk (E : Nat → Addr) (B : Nat) (s : ByteArray) (w : World) (hs : s.size ≤ 4000000) (hT : TEnv w) (hE : Env trGs B w E) :
    Calls Tryd.prog 16 #[.string s] w (RpPost E (readP s) w) := by
  by_cases hbig : 20000 < s.size
  · have z : decide ((20000 : Int) < (s.size : Int)) = true := decide_eq_true (by omega)
    have z' : decide (20000 < s.size) = true := decide_eq_true hbig
    have hz1 := Blk.new w [.string ⟨#[]⟩, .string ⟨#[]⟩, .bool false, .slice none 0 0] 24
    have hF1 := (Below.refl w.heap.size w).alloc (Nat.le_refl _) (.cells #[.string ⟨#[]⟩, .string ⟨#[]⟩, .bool false, .slice none 0 0] 24)
    have hX0 : Hid (readP s = .error 2) := hidd (by unfold readP; rw [if_pos hbig])
    have hcE := (hE.ob hF1).cell 1 (by decide)
    unfold erv at hcE
    have hgl : 1 < w.heap.size := Nat.lt_of_lt_of_le (hE.glt 1 (by decide)) hE.size
    have hg1 : ¬ (1 = w.heap.size) := by omega
    have hg2 : ¬ (w.heap.size = 1) := by omega
    go_enter Tryd.func16, Tryd.ntmps16
    go_upto_region 1 with fail
    generalize w.alloc (.cells #[.string ⟨#[]⟩, .string ⟨#[]⟩, .bool false, .slice none 0 0] 24) = w1 at *
    have y0 := hz1.cell (i := 0) rfl
    have y1 := hz1.cell (i := 1) rfl
    have y2 := hz1.cell (i := 2) rfl
    have y3 := hz1.cell (i := 3) rfl
    have f0 := hz1.frozen 0
    have f1 := hz1.frozen 1
    have f2 := hz1.frozen 2
    have f3 := hz1.frozen 3
    have s4 := hz1.set4 (x0 := (Value.string ⟨#[]⟩)) (x1 := (Value.string ⟨#[]⟩)) (x2 := (Value.bool false)) (x3 := (Value.slice none 0 0))
    have r0 := s4.cell (i := 0) rfl
    have r1 := s4.cell (i := 1) rfl
    have r2' := s4.cell (i := 2) rfl
    have r3 := s4.cell (i := 3) rfl
    have HFR := hidd (hF1.trans (((Fr.refl (fun b => b = w.heap.size) _).set4 (p := w.heap.size) (.inl rfl) ((Value.string ⟨#[]⟩)) ((Value.string ⟨#[]⟩)) ((Value.bool false)) ((Value.slice none 0 0))).below hF1.size (fun b e => by omega)))
    clear s4 hz1 hF1 hT hE hbig
    go_wp2_with fail
    go_region
    all_goals
      go_wp2_with fail
      refine bodyPost_ret (v := .tuple #[.agg #[.string ⟨#[]⟩, .string ⟨#[]⟩, .bool false, .slice none 0 0], erv E 1]) ?_ rfl ?_
      · rw [results_cell_tmp rfl]
        unfold erv
        go_simp
      · exact rp_err hX0.out rfl HFR.out.drew
  · have z : decide ((20000 : Int) < (s.size : Int)) = false := decide_eq_false (by omega)
    have z' : decide (20000 < s.size) = false := decide_eq_false hbig
    have hz1 := (Blk.new w [.string ⟨#[]⟩, .string ⟨#[]⟩, .bool false, .slice none 0 0] 24).alloc (.cells #[.string s, .int .i64 0] 80)
    have hr : RdAt ((w.alloc (.cells #[.string ⟨#[]⟩, .string ⟨#[]⟩, .bool false, .slice none 0 0] 24)).alloc (.cells #[.string s, .int .i64 0] 80)) (w.heap.size + 1) s 0 := by
      have := Blk.new (w.alloc (.cells #[.string ⟨#[]⟩, .string ⟨#[]⟩, .bool false, .slice none 0 0] 24)) [.string s, .int .i64 0] 80
      rw [show (w.alloc (.cells #[.string ⟨#[]⟩, .string ⟨#[]⟩, .bool false, .slice none 0 0] 24)).heap.size = w.heap.size + 1 by simp] at this
      exact this
    have hF1 := ((Below.refl w.heap.size w).alloc (Nat.le_refl _) (.cells #[.string ⟨#[]⟩, .string ⟨#[]⟩, .bool false, .slice none 0 0] 24)).alloc (by simp) (.cells #[.string s, .int .i64 0] 80)
    have hC := node_any E B w hT hE (w.heap.size + 1) (by omega) 9 0 0 s _ rfl (by omega) hr hF1 hs
    have HC : Hid (Calls Tryd.prog 29 #[.pointer (some ⟨w.heap.size + 1, 0, none⟩), .int .i64 0] _ (NdPost E (nodeP 9 0 s.data.toList) (w.heap.size + 1) _)) := hidd hC
    have HR : Hid (readP s = match nodeP 9 0 s.data.toList with
      | .error e => .error e
      | .ok (x, _, r) => if r.length ≠ 0 then .error 1 else if treeE x = 0 then .ok x else .error (treeE x)) := hidd (by unfold readP; rw [if_neg hbig]; rfl)
    clear hC hr hbig
    go_enter Tryd.func16, Tryd.ntmps16
    go_wp2_with fail
    refine HC.out.mono ?_
    rintro e w3 ⟨hq, hf3⟩
    have hz3 := hz1.fr hf3 (by omega)
    have hF3 : Below w.heap.size w w3 := hF1.trans (hf3.below (by simp; omega) (fun b e => by omega))
    clear hz1 hF1 hf3 HC
    cases hX3 : nodeP 9 0 s.data.toList with
    | error en =>
      rw [hX3] at hq
      simp only at hq
      obtain ⟨k, d, x, a, mm, cap, g, rfl, hge⟩ := hq
      have hX0 : Hid (readP s = .error en) := hidd (by rw [HR.out, hX3])
      have hG0 := hidd hge
      have hz4 := hz3.alloc (.cells #[.string k, .string d, .bool x, .slice a mm cap] 24)
      have hF4 := hF3.alloc hF3.size (.cells #[.string k, .string d, .bool x, .slice a mm cap] 24)
      clear hz3 hF3 hX3 HR hge hT hE
      unfold erv
      go_upto_region 9 with fail
      generalize w3.alloc (.cells #[.string k, .string d, .bool x, .slice a mm cap] 24) = w4 at *
      have y0 := hz4.cell (i := 0) rfl
      have y1 := hz4.cell (i := 1) rfl
      have y2 := hz4.cell (i := 2) rfl
      have y3 := hz4.cell (i := 3) rfl
      have f0 := hz4.frozen 0
      have f1 := hz4.frozen 1
      have f2 := hz4.frozen 2
      have f3 := hz4.frozen 3
      have s4 := hz4.set4 (x0 := (Value.string ⟨#[]⟩)) (x1 := (Value.string ⟨#[]⟩)) (x2 := (Value.bool false)) (x3 := (Value.slice none 0 0))
      have r0 := s4.cell (i := 0) rfl
      have r1 := s4.cell (i := 1) rfl
      have r2' := s4.cell (i := 2) rfl
      have r3 := s4.cell (i := 3) rfl
      have HFR := hidd (hF4.trans (((Fr.refl (fun b => b = w.heap.size) _).set4 (p := w.heap.size) (.inl rfl) ((Value.string ⟨#[]⟩)) ((Value.string ⟨#[]⟩)) ((Value.bool false)) ((Value.slice none 0 0))).below hF4.size (fun b e => by omega)))
      have HX := hidd (hX0.out)
      have HG := hidd (hG0.out)
      clear s4 hz4 hF4 
      go_wp2_with fail
      refine bodyPost_ret (v := .tuple #[.agg #[.string ⟨#[]⟩, .string ⟨#[]⟩, .bool false, .slice none 0 0], erv E g]) ?_ rfl ?_
      · rw [results_cell_tmp rfl]
        unfold erv
        go_simp
      · exact rp_err HX.out HG.out HFR.out
    | ok t =>
      obtain ⟨x, c2, r2⟩ := t
      rw [hX3] at hq
      simp only at hq
      obtain ⟨kd, da, ex, xa, xc, ks', rfl, hbr, hok', hin', h3⟩ := hq
      obtain ⟨X, hXe⟩ : ∃ X, bstr r2 = X := ⟨_, rfl⟩
      have hrl : X.size = r2.length := by rw [← hXe, ← size_toList, bstr_list]
      rw [hXe] at h3
      have hz4 := hz3.alloc (.cells #[.string kd, .string da, .bool ex, .slice xa ks'.length xc] 24)
      have hd4 := Blk.new w3 [.string kd, .string da, .bool ex, .slice xa ks'.length xc] 24
      have hr4 := Blk.alloc h3 (.cells #[.string kd, .string da, .bool ex, .slice xa ks'.length xc] 24)
      have hF4 := hF3.alloc hF3.size (.cells #[.string kd, .string da, .bool ex, .slice xa ks'.length xc] 24)
      have hok4 := hok'.alloc (.cells #[.string kd, .string da, .bool ex, .slice xa ks'.length xc] 24)
      have hE4 := hE.ob hF4
      have x1 := hr4.cell (i := 0) rfl
      have d0 := hd4.cell (i := 0) rfl
      have d1 := hd4.cell (i := 1) rfl
      have d2 := hd4.cell (i := 2) rfl
      have d3 := hd4.cell (i := 3) rfl
      by_cases hne : X.size = 0
      · have k0 := emp_list hne
        have hte : treeE x = treeE (Tr.mk kd da ex (.slice xa ks'.length xc) ks' : Lt) := by rw [← hbr]; exact treeE_map _ _
        have hCT := check_tr E B (Tr.mk kd da ex (.slice xa ks'.length xc) ks' : Lt) _ hok4 hE4
        obtain ⟨C, hCe⟩ : ∃ C, treeE (Tr.mk kd da ex (.slice xa ks'.length xc) ks' : Lt) = C := ⟨_, rfl⟩
        rw [hCe] at hCT hte
        unfold nval at hCT
        simp only [Tr.kind, Tr.data, Tr.exec, Tr.v] at hCT
        have HCT := hidd hCT
        have HX1 : Hid (readP s = if C = 0 then .ok x else .error C) := hidd (by rw [HR.out, hX3]; simp only; rw [if_neg (by omega), hte])
        have HBR := hidd hbr
        have HOK := hidd hok4
        have HIN : Hid ((Tr.mk kd da ex (.slice xa ks'.length xc) ks' : Lt).In (fun b => ¬ (b = w.heap.size))) := hidd (in_mono (fun b hb e => by have := hb.1; simp at this; omega) _ hin')
        clear hCT hz3 hF3 hX3 HR hbr hok' hin' h3 hrl hd4 hr4 hok4 hte hCe hXe hne hT hE hE4
        go_wp2_with fail
        refine HCT.out.mono ?_
        rintro e w5 ⟨rfl, hb5⟩
        have hz5 := hz4.below hb5 hz4.lt
        have hF5 := hF4.trans (hb5.mono hF4.size)
        have hok5 := HOK.out.ob hb5
        have e0 := (hb5.cell (p := ⟨w3.heap.size, 0, none⟩) (by simp)).trans d0
        have e1 := (hb5.cell (p := ⟨w3.heap.size, 1, none⟩) (by simp)).trans d1
        have e2 := (hb5.cell (p := ⟨w3.heap.size, 2, none⟩) (by simp)).trans d2
        have e3 := (hb5.cell (p := ⟨w3.heap.size, 3, none⟩) (by simp)).trans d3
        clear hz4 hF4 hb5 d0 d1 d2 d3 x1 HOK HCT
        by_cases h0 : C = 0
        · have HX := hidd (HX1.out.trans (if_pos h0))
          subst h0
          have hFz := (Fr.refl (fun b => b = w.heap.size) w5).set4 (p := w.heap.size) (.inl rfl) (.string kd) (.string da) (.bool ex) (.slice xa ks'.length xc)
          have HOZ := hidd (ok_fr hFz _ hok5 HIN.out)
          clear hok5 hFz HX1
          rw [evc_zero]
          have y0 := hz5.cell (i := 0) rfl
          have y1 := hz5.cell (i := 1) rfl
          have y2 := hz5.cell (i := 2) rfl
          have y3 := hz5.cell (i := 3) rfl
          have f0 := hz5.frozen 0
          have f1 := hz5.frozen 1
          have f2 := hz5.frozen 2
          have f3 := hz5.frozen 3
          have s4 := hz5.set4 (x0 := (Value.string kd)) (x1 := (Value.string da)) (x2 := (Value.bool ex)) (x3 := (Value.slice xa ks'.length xc))
          have r0 := s4.cell (i := 0) rfl
          have r1 := s4.cell (i := 1) rfl
          have r2' := s4.cell (i := 2) rfl
          have r3 := s4.cell (i := 3) rfl
          have HFR := hidd (hF5.trans (((Fr.refl (fun b => b = w.heap.size) _).set4 (p := w.heap.size) (.inl rfl) ((Value.string kd)) ((Value.string da)) ((Value.bool ex)) ((Value.slice xa ks'.length xc))).below hF5.size (fun b e => by omega)))
          clear s4 hz5 hF5
          go_wp2_with fail
          refine bodyPost_ret (v := .tuple #[.agg #[.string kd, .string da, .bool ex, .slice xa ks'.length xc], .nilIface]) ?_ rfl ?_
          · rw [results_cell_tmp rfl]
            go_simp
          · rw [HX.out]
            exact ⟨⟨kd, da, ex, xa, xc, ks', rfl, HBR.out, HOZ.out⟩, HFR.out⟩
        · have HX0 := hidd (HX1.out.trans (if_neg h0))
          have HG0 := hidd (evc_ne (E := E) h0).symm
          clear hok5 HX1
          rw [evc_ne h0]
          clear h0
          have y0 := hz5.cell (i := 0) rfl
          have y1 := hz5.cell (i := 1) rfl
          have y2 := hz5.cell (i := 2) rfl
          have y3 := hz5.cell (i := 3) rfl
          have f0 := hz5.frozen 0
          have f1 := hz5.frozen 1
          have f2 := hz5.frozen 2
          have f3 := hz5.frozen 3
          have s4 := hz5.set4 (x0 := (Value.string ⟨#[]⟩)) (x1 := (Value.string ⟨#[]⟩)) (x2 := (Value.bool false)) (x3 := (Value.slice none 0 0))
          have r0 := s4.cell (i := 0) rfl
          have r1 := s4.cell (i := 1) rfl
          have r2' := s4.cell (i := 2) rfl
          have r3 := s4.cell (i := 3) rfl
          have HFR := hidd (hF5.trans (((Fr.refl (fun b => b = w.heap.size) _).set4 (p := w.heap.size) (.inl rfl) ((Value.string ⟨#[]⟩)) ((Value.string ⟨#[]⟩)) ((Value.bool false)) ((Value.slice none 0 0))).below hF5.size (fun b e => by omega)))
          have HX := hidd (HX0.out)
          have HG := hidd (HG0.out)
          clear s4 hz5 hF5 
          go_wp2_with fail
          refine bodyPost_ret (v := .tuple #[.agg #[.string ⟨#[]⟩, .string ⟨#[]⟩, .bool false, .slice none 0 0], erv E (codeGs.getD (C - 1) 0)]) ?_ rfl ?_
          · rw [results_cell_tmp rfl]
            unfold erv
            go_simp
          · exact rp_err HX.out HG.out HFR.out
      · have k0 := emp_no hne
        have k0' : (X.toList != []) = true := by rw [bne, k0]; rfl
        have hX0 : Hid (readP s = .error 1) := hidd (by rw [HR.out, hX3]; simp only; rw [if_pos (by omega)])
        have hcE := hE4.cell 2 (by decide)
        unfold erv at hcE
        clear hz3 hF3 hX3 HR hbr hok' hin' h3 hrl hd4 hr4 hok4 hXe hT hE hE4
        go_upto_region 9 with fail
        clear x1 d0 d1 d2 d3 hcE
        generalize w3.alloc (.cells #[.string kd, .string da, .bool ex, .slice xa ks'.length xc] 24) = w4 at *
        have y0 := hz4.cell (i := 0) rfl
        have y1 := hz4.cell (i := 1) rfl
        have y2 := hz4.cell (i := 2) rfl
        have y3 := hz4.cell (i := 3) rfl
        have f0 := hz4.frozen 0
        have f1 := hz4.frozen 1
        have f2 := hz4.frozen 2
        have f3 := hz4.frozen 3
        have s4 := hz4.set4 (x0 := (Value.string ⟨#[]⟩)) (x1 := (Value.string ⟨#[]⟩)) (x2 := (Value.bool false)) (x3 := (Value.slice none 0 0))
        have r0 := s4.cell (i := 0) rfl
        have r1 := s4.cell (i := 1) rfl
        have r2' := s4.cell (i := 2) rfl
        have r3 := s4.cell (i := 3) rfl
        have HFR := hidd (hF4.trans (((Fr.refl (fun b => b = w.heap.size) _).set4 (p := w.heap.size) (.inl rfl) ((Value.string ⟨#[]⟩)) ((Value.string ⟨#[]⟩)) ((Value.bool false)) ((Value.slice none 0 0))).below hF4.size (fun b e => by omega)))
        have HX := hidd (hX0.out)
        have HG := hidd (show erv E 2 = evc E 1 from rfl)
        clear s4 hz4 hF4 
        go_wp2_with fail
        refine bodyPost_ret (v := .tuple #[.agg #[.string ⟨#[]⟩, .string ⟨#[]⟩, .bool false, .slice none 0 0], erv E 2]) ?_ rfl ?_
        · rw [results_cell_tmp rfl]
          unfold erv
          go_simp
        · exact rp_err HX.out HG.out HFR.out
end Go.Proofs.YtoaedkinlnkkhaaDoor
