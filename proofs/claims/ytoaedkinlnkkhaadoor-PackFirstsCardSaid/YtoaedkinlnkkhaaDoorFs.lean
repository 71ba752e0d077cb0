/- stillroomlaw1.PackFirsts, walked. Condition: the trees are there, the variables and the library's tables read as listed. -/
import Derived.Test.YtoaedkinlnkkhaaDoorFsP
namespace Go.Proofs.YtoaedkinlnkkhaaDoor
open Go.RowKit

theorem below_step6 {w0 W W' : World} (h : Below w0.heap.size w0 W) (hb : Below W.heap.size W W') : Below w0.heap.size w0 W' := h.trans (hb.mono h.size)
set_option maxRecDepth 100000 in
set_option maxHeartbeats 40000000 in
theorem packFirsts_true (E : Nat → Addr) (B : Nat) (v : Value) (L : List Lt) (w : World) (hL : NdI L v w) (hE : Env trGs B w E) (hT : TEnv w) :
    Calls Tryd.prog 5 #[v] w fun e w' => e = .returned (.bool true) ∧ Below w.heap.size w w' := by
  obtain ⟨a, cap, rfl⟩ := hL.shape
  have HPA := hidd (packed_true E B w hT hE)
  have HLN := hidd (fun (t : Lt) => large_num6 t 40 (by omega))
  have HON := hidd (fun W (t : Lt) (hs : SmallL 40 t) (h : t.Ok W) => own_any 300 t W (by have := hs.small.many; omega) (Nat.le_refl _) h)
  have HCK := hidd (fun W (x : Lt) (n : Nat) (h : Below w.heap.size w W) (hx : x.Ok W) (hb : treeE x = n) => (check_tr E B x W hx (hE.ob h)).mono (R' := fun e w' => e = .returned (evc E n) ∧ Below W.heap.size W w') fun e w' ⟨h1, h2⟩ => ⟨by rw [h1, hb], h2⟩)
  have HTX := hidd (fun W (x : Lt) (n : ByteArray) (h : Below w.heap.size w W) (hx : x.Ok W) (hb : textB x = n) => (text_any E B x W hx (hE.ob h) (hT.low h)).mono (R' := fun e w' => e = .returned (.string n) ∧ Below W.heap.size W w') fun e w' ⟨h1, h2⟩ => ⟨by rw [h1, hb], h2⟩)
  have HFT := hidd (fun W (S : ByteArray) (X : Except Nat (Nd × List UInt8)) (hsz : S.size ≤ 20000) (h : Below w.heap.size w W) (hX : firstP S = X) => (first_pk E B S W (by omega) (hT.low h) (hE.ob h)).mono (R' := FpPost E X W) fun e w' h1 => by rw [← hX]; exact h1)
  have HLO := hidd (fun W (h : Below w.heap.size w W) => hL.ob h)
  clear hL hE hT
  by_cases h8 : 8 < L.length
  · have z1 : decide ((8 : Int) < (L.length : Int)) = true := decide_eq_true (by omega)
    have z2 : decide (8 < L.length) = true := decide_eq_true h8
    clear HLN HON HCK HTX HFT HLO
    go_enter Tryd.func5, Tryd.ntmps5
    go_wp2_with fail
    refine HPA.out.mono ?_
    rintro e w1 ⟨rfl, hb1⟩
    go_wp2_with fail
    go_ret
    exact ⟨rfl, hb1⟩
  have z1 : decide ((8 : Int) < (L.length : Int)) = false := decide_eq_false (by omega)
  have z2 : decide (8 < L.length) = false := decide_eq_false h8
  go_enter Tryd.func5, Tryd.ntmps5
  go_wp2_with fail
  refine HPA.out.mono ?_
  rintro e w1 ⟨rfl, hb1⟩
  clear HPA
  go_wp2_with fail
  go_loopw [4, 5] (fun vx vi wr => ∃ k : Nat, k ≤ L.length ∧ vx = .string (bstr (catT (L.take k))) ∧ vi = .int .i64 (k : Int) ∧ Below w.heap.size w wr ∧ ∀ t ∈ L.take k, treeE t = 0) (fun _ vi _ => L.length - (intOf vi).toNat)
  case atStart => exact ⟨0, Nat.zero_le _, rfl, rfl, hb1, fun t ht => by simp at ht⟩
  case round =>
    obtain ⟨k, hk, rfl, rfl, hBr, hr0⟩ := hrel
    by_cases hlt : k < L.length
    · have hI := HLO.out wr hBr
      have hok := hI.2 _ (List.getElem_mem hlt)
      obtain ⟨b1, o1, rfl, hb1', a0, a1, a2, a3⟩ := hI.at hlt
      have p1 : (0 : Int) ≤ (k : Int) := by omega
      have p2 : (k : Int) < (L.length : Int) := by omega
      obtain ⟨r, hrr, hrS, HLG⟩ := HLN.out L[k]
      have hcs := catT_succ L hlt
      have hcl := catT_len (L.take k) hr0
      rw [List.length_take] at hcl
      have hrk : treeE L[k] = 0 → ∀ t ∈ L.take (k + 1), treeE t = 0 := fun h t ht => by
        rw [List.take_succ_eq_append_getElem hlt, List.mem_append, List.mem_singleton] at ht
        rcases ht with ht | rfl
        · exact hr0 t ht
        · exact h
      have HCS := hidd hcs
      have HRK := hidd hrk
      have hO := HON.out
      obtain ⟨S, hS⟩ : ∃ S, bstr (catT (L.take k)) = S := ⟨_, rfl⟩
      have hSz : S.size ≤ 4000000 := by rw [← hS, ← size_toList, bstr_list]; omega
      have HS := hidd hS
      rw [hS]
      clear hS hcs hrk hcl hI hO hr0
      obtain ⟨ta, tc, htv⟩ := hok.shape
      have HKB : Hid (∀ x : Lt, x.bare = L[k].bare → treeE x = treeE L[k] ∧ textB x = textB L[k] ∧ textL x = textL L[k]) := hidd (fun x hx => by
        have h1 : treeE x.bare = treeE x := treeE_map _ _
        have h2 : treeE L[k].bare = treeE L[k] := treeE_map _ _
        have h3 : textL x.bare = textL x := textL_map _ _
        have h4 : textL L[k].bare = textL L[k] := textL_map _ _
        exact ⟨by rw [← h1, hx, h2], by rw [textB_bare hx, ← textB_bare rfl], by rw [← h3, hx, h4]⟩)
      generalize L[k] = tk at *
      obtain ⟨kx, dx, ex, vx, ksx⟩ := tk
      simp only [Tr.kind, Tr.data, Tr.exec, Tr.v, Tr.kids] at a0 a1 a2 a3 htv
      subst htv
      have hl := HLG.out wr hok
      unfold nval at hl
      simp only [Tr.kind, Tr.data, Tr.exec, Tr.v] at hl
      have HL := hidd hl
      clear hl HLG
      go_wp2_with fail
      refine HL.out.mono ?_
      rintro e w2 ⟨rfl, hb2⟩
      have hB2 := hBr.trans (hb2.mono hBr.size)
      have hok2 := hok.ob hb2
      have d0 := (hb2.cell (p := ⟨b1, _, none⟩) hb1').trans a0
      have d1 := (hb2.cell (p := ⟨b1, _, none⟩) hb1').trans a1
      have d2 := (hb2.cell (p := ⟨b1, _, none⟩) hb1').trans a2
      have d3 := (hb2.cell (p := ⟨b1, _, none⟩) hb1').trans a3
      clear hBr hok hb2 a0 a1 a2 a3 HL hb1'
      by_cases hr : r = 0
      rotate_left
      · obtain rfl : r = 1 := by omega
        clear d0 d1 d2 d3 hok2 HRK HCS HS HKB hrS HON HCK HTX HFT HLO HLN
        go_wp2_with fail
        go_ret
        exact ⟨rfl, hB2⟩
      have hO := HON.out w2 _ (hrS.1 hr) hok2
      subst hr
      unfold nval at hO
      simp only [Tr.kind, Tr.data, Tr.exec, Tr.v] at hO
      have HO := hidd hO
      clear hO hrS hrr
      go_wp2_with fail
      refine HO.out.mono ?_
      rintro e w3 ⟨xa, xc, ksy, rfl, hbx, hox, -, hb3⟩
      simp only [Tr.kind, Tr.data, Tr.exec] at hbx hox ⊢
      have hB3 := hB2.trans (hb3.mono hB2.size)
      have hB4 := hB3.alloc hB3.size (.cells #[.string kx, .string dx, .bool ex, .slice xa ksy.length xc] 24)
      have hox4 := hox.alloc (.cells #[.string kx, .string dx, .bool ex, .slice xa ksy.length xc] 24)
      have hbk := Blk.new w3 [.string kx, .string dx, .bool ex, .slice xa ksy.length xc] 24
      obtain ⟨ke, kt, kl⟩ := HKB.out _ hbx
      have u0 := hbk.cell (i := 0) rfl
      have u1 := hbk.cell (i := 1) rfl
      have u2 := hbk.cell (i := 2) rfl
      have u3 := hbk.cell (i := 3) rfl
      clear hB2 hB3 hb3 hox hbx HKB HO hok2 d0 d1 d2 d3
      have hC := HCK.out _ _ _ hB4 hox4 ke
      unfold nval at hC
      simp only [Tr.kind, Tr.data, Tr.exec, Tr.v] at hC
      by_cases hn : treeE (Tr.mk kx dx ex (.slice ta ksx.length tc) ksx : Lt) = 0
      rotate_left
      · rw [evc_ne hn] at hC
        have HC := hidd hC
        have HT' : Hid (∀ W, Below w.heap.size w W → (Tr.mk kx dx ex (.slice xa ksy.length xc) ksy : Lt).Ok W → Calls Tryd.prog 15 #[nval (Tr.mk kx dx ex (.slice xa ksy.length xc) ksy : Lt)] W fun e w' => e = .returned (.string ⟨#[]⟩) ∧ Below W.heap.size W w') := hidd (fun W h hx => HTX.out W _ _ h hx (by rw [kt]; exact if_neg hn))
        unfold nval at HT'
        simp only [Tr.kind, Tr.data, Tr.exec, Tr.v] at HT'
        clear hC hn HRK HCS HS HON HCK HTX HFT HLO HLN ke kt kl
        go_wp2_with fail
        refine HC.out.mono ?_
        rintro e w5 ⟨rfl, hb5⟩
        have hB5 := hB4.trans (hb5.mono hB4.size)
        have hox5 := hox4.ob hb5
        have hbk := hbk.below hb5 hbk.lt
        have u0 := hbk.cell (i := 0) rfl
        have u1 := hbk.cell (i := 1) rfl
        have u2 := hbk.cell (i := 2) rfl
        have u3 := hbk.cell (i := 3) rfl
        clear hb5 hB4 hox4 hbk
        go_wp2_with fail
        refine (HT'.out _ hB5 hox5).mono ?_
        rintro e w6 ⟨rfl, hb6⟩
        have hB6 := hB5.trans (hb6.mono hB5.size)
        go_wp2_with fail
        go_ret
        exact ⟨rfl, hB6⟩
      rw [hn, evc_zero] at hC
      have HC := hidd hC
      have hKX := HRK.out hn
      have htl : (textL (Tr.mk kx dx ex (.slice ta ksx.length tc) ksx : Lt)).length ≤ 500000 := by
        have := right_len hn
        rw [← size_toList, bstr_list] at this
        exact this
      obtain ⟨X, hX⟩ : ∃ X, bstr (textL (Tr.mk kx dx ex (.slice ta ksx.length tc) ksx : Lt)) = X := ⟨_, rfl⟩
      have HT' : Hid (∀ W, Below w.heap.size w W → (Tr.mk kx dx ex (.slice xa ksy.length xc) ksy : Lt).Ok W → Calls Tryd.prog 15 #[nval (Tr.mk kx dx ex (.slice xa ksy.length xc) ksy : Lt)] W fun e w' => e = .returned (.string X) ∧ Below W.heap.size W w') := hidd (fun W h hx => HTX.out W _ _ h hx (by rw [kt, ← hX]; exact if_pos hn))
      have hXs : X.size ≤ 500000 := by rw [← hX, ← size_toList, bstr_list]; exact htl
      have HFIN : Hid (S ++ X = bstr (catT (L.take (k + 1)))) := hidd (by rw [HCS.out, ← HS.out, ← hX]; exact ba_ext (by simp [bstr]))
      unfold nval at HT'
      simp only [Tr.kind, Tr.data, Tr.exec, Tr.v] at HT'
      have m1 : ¬ (9223372036854775807 < S.size + X.size) := by omega
      have HKX := hidd hKX
      clear hC hn HRK HCS HS HON HCK HTX HFT HLO HLN ke kt kl hX htl hKX
      go_wp2_with fail
      refine HC.out.mono ?_
      rintro e w5 ⟨rfl, hb5⟩
      have hB5 := hB4.trans (hb5.mono hB4.size)
      have hox5 := hox4.ob hb5
      have hbk := hbk.below hb5 hbk.lt
      have u0 := hbk.cell (i := 0) rfl
      have u1 := hbk.cell (i := 1) rfl
      have u2 := hbk.cell (i := 2) rfl
      have u3 := hbk.cell (i := 3) rfl
      clear hb5 hB4 hox4 hbk
      go_wp2_with fail
      refine (HT'.out _ hB5 hox5).mono ?_
      rintro e w6 ⟨rfl, hb6⟩
      have hB6 := hB5.trans (hb6.mono hB5.size)
      clear hB5 hox5 hb6 u0 u1 u2 u3 HT' HC
      go_wp2_with fail
      go_roundw
      case rel => exact ⟨k + 1, hlt, by rw [HFIN.out], by go_num, hB6, HKX.out⟩
      case measure => simp [intOf]; omega
    · have hkl : k = L.length := by omega
      subst hkl
      rw [List.take_of_length_le (Nat.le_refl _)] at hr0
      rw [List.take_of_length_le (Nat.le_refl _)]
      have hcl := catT_len L hr0
      have HR0 := hidd hr0
      obtain ⟨S, hS⟩ : ∃ S, bstr (catT L) = S := ⟨_, rfl⟩
      have hSz : S.size = (catT L).length := by rw [← hS, ← size_toList, bstr_list]
      rw [hS]
      have HS := hidd hS
      clear hr0 hS hcl HLN HON HCK HTX
      by_cases hbig : 20000 < S.size
      · have y1 : decide ((20000 : Int) < (S.size : Int)) = true := decide_eq_true (by omega)
        have y2 : decide (20000 < S.size) = true := decide_eq_true hbig
        clear HS HR0 HFT HLO hSz
        go_wp2_with fail
        go_ret
        exact ⟨rfl, hBr⟩
      have y1 : decide ((20000 : Int) < (S.size : Int)) = false := decide_eq_false (by omega)
      have y2 : decide (20000 < S.size) = false := decide_eq_false hbig
      have hle : (catT L).length ≤ 20000 := by omega
      have HCD : Hid (∀ j, (catT (L.drop j)).length ≤ 20000) := hidd (fun j => by
        have : catT L = catT (L.take j) ++ catT (L.drop j) := by unfold catT; rw [← List.flatMap_append, List.take_append_drop]
        have := congrArg List.length this
        rw [List.length_append] at this
        omega)
      clear hle hSz
      go_wp2_with fail
      clear y1 y2 hbig
      go_loopw [4, 7] (fun vx vi wr2 => ∃ k : Nat, k ≤ L.length ∧ vx = .string (bstr (catT (L.drop k))) ∧ vi = .int .i64 (k : Int) ∧ Below w.heap.size w wr2) (fun _ vi _ => L.length - (intOf vi).toNat)
      case atStart => exact ⟨0, Nat.zero_le _, by rw [← HS.out]; rfl, rfl, hBr⟩
      case round =>
        obtain ⟨k, hk, rfl, rfl, hB2⟩ := hrel
        by_cases hlt : k < L.length
        · have hX := first_cat L hlt (HR0.out _ (List.getElem_mem hlt)) (HCD.out k)
          have hF := HFT.out wr _ _ (by rw [← size_toList, bstr_list]; exact HCD.out k) hB2 hX
          have HF := hidd hF
          have p1 : (0 : Int) ≤ (k : Int) := by omega
          have p2 : (k : Int) < (L.length : Int) := by omega
          clear hF hX
          generalize bstr (catT (L.drop k)) = S2 at *
          go_wp2_with fail
          refine HF.out.mono ?_
          rintro e w3 ⟨⟨kd, da, ex, a', cap', ks, rfl, hbr, hok⟩, hb3⟩
          have hB3 := hB2.trans (hb3.mono hB2.size)
          have hB4 := hB3.alloc hB3.size (.cells #[.string kd, .string da, .bool ex, .slice a' ks.length cap'] 24)
          have hok4 := hok.alloc (.cells #[.string kd, .string da, .bool ex, .slice a' ks.length cap'] 24)
          have hbk := Blk.new w3 [.string kd, .string da, .bool ex, .slice a' ks.length cap'] 24
          obtain ⟨N1, hN1⟩ : ∃ N, bstr (catT (L.drop (k + 1))) = N := ⟨_, rfl⟩
          rw [hN1]
          have HN1 := hidd hN1
          have hI := HLO.out _ hB4
          have hokk := hI.2 _ (List.getElem_mem hlt)
          obtain ⟨b1, o1, rfl, hb1', a0, a1, a2, a3⟩ := hI.at hlt
          clear hB2 hB3 hb3 hok HF hI hN1
          generalize L[k] = tk at *
          obtain ⟨kx, dx, ex', vx, ksx⟩ := tk
          obtain ⟨ta, tc, htv⟩ := hokk.shape
          simp only [Tr.kind, Tr.data, Tr.exec, Tr.v, Tr.kids] at a0 a1 a2 a3 htv
          subst htv
          go_upto_region 20 with fail
          generalize w3.alloc (.cells #[.string kd, .string da, .bool ex, .slice a' ks.length cap'] 24) = w4 at *
          have HSM : Hid (∀ W, Below w4.heap.size w4 W → Calls Tryd.prog 11 #[nval (Tr.mk kd da ex (.slice a' ks.length cap') ks : Lt), nval (Tr.mk kx dx ex' (.slice ta ksx.length tc) ksx : Lt)] W fun e w' => e = .returned (.bool true) ∧ Below W.heap.size W w') := hidd (fun W h => same_any _ _ W true (hok4.ob h) (hokk.ob h) ⟨fun _ => hbr, fun _ => rfl⟩)
          unfold nval at HSM
          simp only [Tr.kind, Tr.data, Tr.exec, Tr.v] at HSM
          have HC : Hid (∀ W, Below w4.heap.size w4 W → W.cell? ⟨w3.heap.size, 0, none⟩ = some (.string kd) ∧ W.cell? ⟨w3.heap.size, 1, none⟩ = some (.string da) ∧ W.cell? ⟨w3.heap.size, 2, none⟩ = some (.bool ex) ∧ W.cell? ⟨w3.heap.size, 3, none⟩ = some (.slice a' ks.length cap') ∧
              W.cell? ⟨b1, o1 + k * 4, none⟩ = some (.string kx) ∧ W.cell? ⟨b1, o1 + k * 4 + 1, none⟩ = some (.string dx) ∧ W.cell? ⟨b1, o1 + k * 4 + 2, none⟩ = some (.bool ex') ∧ W.cell? ⟨b1, o1 + k * 4 + 3, none⟩ = some (.slice ta ksx.length tc)) := hidd (fun W hW =>
            ⟨(hbk.below hW hbk.lt).cell (i := 0) rfl, (hbk.below hW hbk.lt).cell (i := 1) rfl, (hbk.below hW hbk.lt).cell (i := 2) rfl, (hbk.below hW hbk.lt).cell (i := 3) rfl,
              (hW.cell (p := ⟨b1, _, none⟩) hb1').trans a0, (hW.cell (p := ⟨b1, _, none⟩) hb1').trans a1, (hW.cell (p := ⟨b1, _, none⟩) hb1').trans a2, (hW.cell (p := ⟨b1, _, none⟩) hb1').trans a3⟩)
          have hd0 : Below w4.heap.size w4 w4.drew := (Below.refl _ w4).drew
          clear a0 a1 a2 a3 hbk hok4 hokk hbr hb1'
          first
            | (go_region_held3 (fun W => W.cell? ⟨w3.heap.size, 0, none⟩ = some (.string kd) ∧ W.cell? ⟨w3.heap.size, 1, none⟩ = some (.string da) ∧ W.cell? ⟨w3.heap.size, 2, none⟩ = some (.bool ex) ∧ W.cell? ⟨w3.heap.size, 3, none⟩ = some (.slice a' ks.length cap') ∧
                W.cell? ⟨b1, o1 + k * 4, none⟩ = some (.string kx) ∧ W.cell? ⟨b1, o1 + k * 4 + 1, none⟩ = some (.string dx) ∧ W.cell? ⟨b1, o1 + k * 4 + 2, none⟩ = some (.bool ex') ∧ W.cell? ⟨b1, o1 + k * 4 + 3, none⟩ = some (.slice ta ksx.length tc))
                (first | exact HC.out _ (by assumption))
                (first
                  | (go_at_call 11; (with_reducible refine (HSM.out _ (by assumption)).mono ?_); rintro e w5 ⟨rfl, hb5⟩; have hq5 := below_step6 (w0 := w4) (by assumption) hb5)))
            | fail
          all_goals
            have hB6 := hB4.trans (hq5.mono hB4.size)
            clear hq5 hb5 hd0 HC HSM hB4
            go_wp2_with fail
            go_roundw
            case rel => exact ⟨k + 1, hlt, by rw [HN1.out], by go_num, hB6⟩
            case measure => simp [intOf]; omega
        · have hkl : k = L.length := by omega
          subst hkl
          rw [List.drop_length, show bstr (catT []) = (⟨#[]⟩ : ByteArray) from rfl]
          clear HFT HLO HR0 HCD hk
          go_wp2_with fail
          go_ret
          exact ⟨rfl, hB2⟩
end Go.Proofs.YtoaedkinlnkkhaaDoor
