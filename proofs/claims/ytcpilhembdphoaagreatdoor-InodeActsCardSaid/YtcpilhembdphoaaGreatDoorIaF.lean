/- stillroomlaw2.actFile of a table and its model: make. Condition: they are side by side, the variables read as listed. · stillroomlaw2.actFile of a table and its model: link, unlink. Condition: they are side by side, the variables read as listed. · stillroomlaw2.actFile of a table and its model: rot. Condition: they are side by side, the variables read as listed. -/
import Derived.Test.YtcpilhembdphoaaGreatDoorIaE
namespace Go.Proofs.YtcpilhembdphoaaGreatDoor
open Go.RowKit

theorem box_real {pc : Prop} {w : World} {B t p r ps rs m N : Nat} {T : Nat → Option Ino} {us : List Bool} {ls : List ByteArray} (h : TbAt pc w B t p r ps rs m N T us ls) {b : Nat} {cs : List Value} (hb : Blk w b cs 50) : ¬ tbS p r rs m T b := by
  obtain ⟨n, hn, hm⟩ := h.mp
  rintro (e | e | e | e | ⟨k, x, hx, e⟩)
  · exact blk_ne hb h.dk.head (by decide) e
  · exact blk_ne hb h.dk.row (by decide) e
  · exact blk_ne hb h.sp.row (by decide) e
  · exact hm.ne_blk hb e.symm
  · exact blk_ne hb (h.ino k x hx).blk (by decide) e
theorem box_model {w : World} {tm q K : Nat} {lv rv : Value} {T : Nat → Option Ino} {V : Nat → Value} {ls : List ByteArray} (md : MdAt w tm q lv rv K T V ls) {b : Nat} {cs : List Value} (hb : Blk w b cs 50) : ¬ mdS tm q lv rv b := by
  rintro (e | e | e | e)
  · exact blk_ne hb md.tab (by decide) e
  · exact blk_ne hb md.dk.head (by decide) e
  · exact own_ne md.dk.l hb (by decide) e
  · exact own_ne md.row hb (by decide) e
/-- A table and its model behind j acts. -/
def St (w0 : World) (t p r ps rs m tm q : Nat) (lv : Value) (n j : Nat) (W : World) : Prop := ∃ (N : Nat) (rv : Value) (K : Nat) (T : Nat → Option Ino) (V : Nat → Value) (us : List Bool) (ls : List ByteArray), N ≤ j ∧ K ≤ j ∧ ls.length = n ∧ Bo w0 W t p r ps rs m N tm q lv rv K T V us ls
theorem St.ob {w0 : World} {t p r ps rs m tm q : Nat} {lv : Value} {n j : Nat} {W W' : World} (h : St w0 t p r ps rs m tm q lv n j W) (hb : Below W.heap.size W W') : St w0 t p r ps rs m tm q lv n j W' := by
  obtain ⟨N, rv, K, T, V, us, ls, h1, h2, h3, h4⟩ := h
  exact ⟨N, rv, K, T, V, us, ls, h1, h2, h3, h4.ob hb⟩
theorem St.more {w0 : World} {t p r ps rs m tm q : Nat} {lv : Value} {n j : Nat} {W : World} (h : St w0 t p r ps rs m tm q lv n j W) : St w0 t p r ps rs m tm q lv n (j + 1) W := by
  obtain ⟨N, rv, K, T, V, us, ls, h1, h2, h3, h4⟩ := h
  exact ⟨N, rv, K, T, V, us, ls, by omega, by omega, h3, h4⟩
def AfPost (w0 : World) (t p r ps rs m tm q : Nat) (lv : Value) (n j : Nat) (e : Ending) (w' : World) : Prop := e = .returned (.bool true) ∧ St w0 t p r ps rs m tm q lv n (j + 1) w'

section
variable (E : Nat → Addr) (B0 : Nat) (w0 w : World) (t p r ps rs m N tm q : Nat) (lv rv : Value) (K : Nat) (T : Nat → Option Ino) (V : Nat → Value) (us : List Bool) (ls : List ByteArray) (j : Nat)
set_option maxRecDepth 100000 in
set_option maxHeartbeats 8000000 in
theorem act_make (h : Bo w0 w t p r ps rs m N tm q lv rv K T V us ls) (hN : N ≤ j) (hK : K ≤ j) (hj : j ≤ 1000) (hE : ∀ W, Below w0.heap.size w0 W → Env codeGs B0 W E) (hH : ∀ W, Below w0.heap.size w0 W → Hnd W) (kind s : ByteArray) (ex : Bool) (n bit : Int) (hk : (kind.toList == [109, 97, 107, 101]) = true) :
    Calls Tryz.prog 18 #[.pointer (some ⟨t, 0, none⟩), .pointer (some ⟨tm, 0, none⟩), .agg #[.string kind, .string s, .bool ex, .int .i64 n, .int .i64 bit]] w (AfPost w0 t p r ps rs m tm q lv ls.length j) := by
  have hA := (Below.refl w.heap.size w).alloc (Nat.le_refl _) (.cells #[.string kind, .string s, .bool ex, .int .i64 n, .int .i64 bit] 50)
  have hbx := Blk.new w [.string kind, .string s, .bool ex, .int .i64 n, .int .i64 bit] 50
  have h1 := h.ob hA
  have HE := hidd hE
  have HHn := hidd hH
  clear h hE hH
  go_enter Tryz.func18, Tryz.ntmps18
  go_upto_region 1 with fail
  obtain ⟨bx, hbe⟩ : ∃ bx, w.heap.size = bx := ⟨_, rfl⟩
  rw [hbe] at hbx ⊢
  clear hbe hA
  generalize w.alloc (.cells #[.string kind, .string s, .bool ex, .int .i64 n, .int .i64 bit] 50) = w1 at *
  have b0 := hbx.cell (i := 0) rfl
  have b1 := hbx.cell (i := 1) rfl
  have b2 := hbx.cell (i := 2) rfl
  have hfree : (frK T K ls.length).length = nfree us := by rw [← h1.tb.len, frK_us (usedT_us h1.md.fin h1.tb.usd), freeL_len, nfree_eq]
  by_cases hbig : 2000 < s.size
  · have HMB := hidd (make_big (.pointer (some ⟨t, 0, none⟩)) s ex w1 E hbig ((HE.out w1 h1.below).cell _ (by decide)))
    have HRB := hidd (fun W => rmake_big tm s ex W hbig)
    unfold erv at HMB
    have HB1 := hidd h1
    have HBX := hidd hbx
    clear h1 hbx hfree
    go_wp2_with fail
    refine HMB.out.mono ?_
    rintro e w2 ⟨rfl, hb2⟩
    have h2 := HB1.out.ob hb2
    have hbx2 := HBX.out.below hb2 HBX.out.lt
    have c1 := hbx2.cell (i := 1) rfl
    have c2 := hbx2.cell (i := 2) rfl
    have hcd := coded2 E B0 w2 (HE.out _ h2.below) (HHn.out _ h2.below) (erv E 0) 2 (.inr ⟨1, by decide, rfl, rfl⟩) 2
    rw [show decide (((2 : Nat) : Int) = 2) = true by decide] at hcd
    unfold erv at hcd
    have HCD := hidd hcd
    have H2 := hidd h2
    clear hcd h2 hbx2 hb2 HMB HB1 HBX b0 b1 b2
    go_wp2_with fail
    refine (HRB.out w2).mono ?_
    rintro e w3 ⟨rfl, rfl⟩
    clear HRB c1 c2
    go_wp2_with fail
    refine HCD.out.mono ?_
    rintro e w4 ⟨rfl, hb4⟩
    have HP := hidd (show AfPost w0 t p r ps rs m tm q lv ls.length j (.returned (.bool true)) w4 from ⟨rfl, N, rv, K, T, V, us, ls, by omega, by omega, rfl, H2.out.ob hb4⟩)
    clear HCD hb4 H2
    go_wp2_with fail
    go_ret
    exact HP.out
  by_cases hfull : needN s.size ≤ nfree us
  rotate_left
  · have HMB := hidd (make_full w0.heap.size t p r ps rs m N T us ls s ex w1 h1.tb (by omega) hfull E codeGs B0 (HE.out w1 h1.below) (by decide))
    have HRB := hidd (fun W (hW : Below w1.heap.size w1 W) => rmake_full W tm q lv rv K T V ls (h1.ob hW).md h1.few s ex (by omega) (by omega))
    unfold erv at HMB
    have HB1 := hidd h1
    have HBX := hidd hbx
    clear h1 hbx hfree
    go_wp2_with fail
    refine HMB.out.mono ?_
    rintro e w2 ⟨rfl, hb2⟩
    have h2 := HB1.out.ob hb2
    have hbx2 := HBX.out.below hb2 HBX.out.lt
    have c1 := hbx2.cell (i := 1) rfl
    have c2 := hbx2.cell (i := 2) rfl
    have HR2 := hidd (HRB.out w2 hb2)
    have H2 := hidd h2
    clear h2 hbx2 hb2 HMB HB1 HBX b0 b1 b2 HRB
    go_wp2_with fail
    refine HR2.out.mono ?_
    rintro e w3 ⟨rfl, hb3⟩
    have h3 := H2.out.ob hb3
    have hcd := coded2 E B0 w3 (HE.out _ h3.below) (HHn.out _ h3.below) (erv E 5) 8 (.inr ⟨7, by decide, rfl, rfl⟩) 8
    rw [show decide (((8 : Nat) : Int) = 8) = true by decide] at hcd
    unfold erv at hcd
    have HCD := hidd hcd
    have H3 := hidd h3
    clear hcd h3 hb3 HR2 c1 c2 H2
    go_wp2_with fail
    refine HCD.out.mono ?_
    rintro e w4 ⟨rfl, hb4⟩
    have HP := hidd (show AfPost w0 t p r ps rs m tm q lv ls.length j (.returned (.bool true)) w4 from ⟨rfl, N, rv, K, T, V, us, ls, by omega, by omega, rfl, H3.out.ob hb4⟩)
    clear HCD hb4 H3
    go_wp2_with fail
    go_ret
    exact HP.out
  · have HMK := hidd (make_ok w0.heap.size t p r ps rs m N T us ls s ex w1 h1.tb (by omega) h1.below.size (by omega) hfull)
    have HB1 := hidd h1
    have HBX := hidd hbx
    have HFREE := hidd hfree
    clear h1 hbx hfree
    go_wp2_with fail
    refine HMK.out.mono ?_
    rintro e w2 ⟨k0, x, rfl, hk0, hkn, hkl, rfl, rfl, hln, hxb, htb2, hf2, -⟩
    have hft : Fr (tbS p r rs m T) w1 w2 := hf2.mono (fun i _ hi => by rcases hi with e | e | e | e; exact .inl e; exact .inr (.inl e); exact .inr (.inr (.inl e)); exact .inr (.inr (.inr (.inl e))))
    have hmd2 := md_real HB1.out.tb HB1.out.md HB1.out.ne hft
    have hbx2 := HBX.out.fr hft (box_real HB1.out.tb HBX.out)
    have c1 := hbx2.cell (i := 1) rfl
    have c2 := hbx2.cell (i := 2) rfl
    have hbl : x.bl = (frK T K ls.length).take (needN x.data.size) := by
      rw [hxb, tk_take, ← HB1.out.tb.len, frK_us (usedT_us HB1.out.md.fin HB1.out.tb.usd)]
    have HRM := hidd (rmake_ok w2 tm q lv rv K T V ls hmd2 HB1.out.few (by omega) k0 x (by omega) (by rw [HFREE.out]; exact hfull) hbl hln hkn hkl HB1.out.pos)
    have HT2 := hidd htb2
    have HFT := hidd hft
    clear htb2 hf2 hft hmd2 hbx2 hbl hxb HMK b0 b1 b2 HBX HFREE
    go_wp2_with fail
    refine HRM.out.mono ?_
    rintro e w3 ⟨rv', K', V', rfl, hmd3, hK', hrv', hf3⟩
    have h3 := HB1.out.step (HT2.out.weak) (HB1.out.sz.lsN _ _ _) (lsN_len _ _ _ _) HFT.out hmd3 hrv' hf3
    have hcd := coded2 E B0 w3 (HE.out _ h3.below) (HHn.out _ h3.below) .nilIface 0 (.inl ⟨rfl, rfl⟩) 0
    rw [show decide (((0 : Nat) : Int) = 0) = true by decide] at hcd
    have HCD := hidd hcd
    have H3 := hidd h3
    clear hcd h3 hmd3 hrv' hf3 HRM HT2 HFT c1 c2 HB1
    go_wp2_with fail
    refine HCD.out.mono ?_
    rintro e w4 ⟨rfl, hb4⟩
    have HP := hidd (show AfPost w0 t p r ps rs m tm q lv ls.length j (.returned (.bool true)) w4 from ⟨rfl, _, rv', K', _, V', _, _, by omega, by omega, lsN_len _ _ _ _, H3.out.ob hb4⟩)
    clear HCD hb4 H3
    go_wp2_with fail
    go_ret
    exact HP.out
end
end Go.Proofs.YtcpilhembdphoaaGreatDoor

namespace Go.Proofs.YtcpilhembdphoaaGreatDoor
open Go.RowKit

theorem mapOf_nat {T : Nat → Option Ino} {n : Int} (h : mapOf T n ≠ none) : ∃ (k : Nat) (x : Ino), n = (k : Int) ∧ T k = some x := by
  unfold mapOf at h
  by_cases h0 : 0 ≤ n
  · rw [if_pos h0] at h
    obtain ⟨k, rfl⟩ := Int.eq_ofNat_of_zero_le h0
    cases hT : T k with
    | none => simp [hT] at h
    | some x => exact ⟨k, x, rfl, hT⟩
  · rw [if_neg h0] at h; exact absurd rfl h
section
variable (E : Nat → Addr) (B0 : Nat) (w0 w : World) (t p r ps rs m N tm q : Nat) (lv rv : Value) (K : Nat) (T : Nat → Option Ino) (V : Nat → Value) (us : List Bool) (ls : List ByteArray) (j : Nat)
set_option maxRecDepth 100000 in
set_option maxHeartbeats 8000000 in
theorem act_link (h : Bo w0 w t p r ps rs m N tm q lv rv K T V us ls) (hN : N ≤ j) (hK : K ≤ j) (hj : j ≤ 1000) (hE : ∀ W, Below w0.heap.size w0 W → Env codeGs B0 W E) (hH : ∀ W, Below w0.heap.size w0 W → Hnd W) (kind s : ByteArray) (ex : Bool) (n bit : Int) (hn : -9223372036854775808 ≤ n ∧ n ≤ 9223372036854775807) (hk0 : (kind.toList == [109, 97, 107, 101]) = false) (hk : (kind.toList == [108, 105, 110, 107]) = true) :
    Calls Tryz.prog 18 #[.pointer (some ⟨t, 0, none⟩), .pointer (some ⟨tm, 0, none⟩), .agg #[.string kind, .string s, .bool ex, .int .i64 n, .int .i64 bit]] w (AfPost w0 t p r ps rs m tm q lv ls.length j) := by
  have hA := (Below.refl w.heap.size w).alloc (Nat.le_refl _) (.cells #[.string kind, .string s, .bool ex, .int .i64 n, .int .i64 bit] 50)
  have hbx := Blk.new w [.string kind, .string s, .bool ex, .int .i64 n, .int .i64 bit] 50
  have h1 := h.ob hA
  have HE := hidd hE
  have HHn := hidd hH
  clear h hE hH
  go_enter Tryz.func18, Tryz.ntmps18
  go_upto_region 1 with fail
  obtain ⟨bx, hbe⟩ : ∃ bx, w.heap.size = bx := ⟨_, rfl⟩
  rw [hbe] at hbx ⊢
  clear hbe hA
  generalize w.alloc (.cells #[.string kind, .string s, .bool ex, .int .i64 n, .int .i64 bit] 50) = w1 at *
  have b0 := hbx.cell (i := 0) rfl
  have b3 := hbx.cell (i := 3) rfl
  have b3d : w1.drew.cell? ⟨bx, 3, none⟩ = some (.int .i64 n) := b3
  have h1d := h1.ob ((Below.refl w1.heap.size w1).drew)
  have hbxd : Blk w1.drew bx _ _ := hbx
  go_upto_region 7 with fail
  by_cases hx : mapOf T n = none
  · have hln := link_none w0.heap.size t p r ps rs m N T us ls n w1.drew E h1d.tb hn hx ((HE.out _ h1d.below).cell _ (by decide))
    unfold erv at hln
    have HLN := hidd hln
    have HLM := hidd (rlink_none w1.drew tm q lv rv K T V ls h1d.md n 1 hn hx)
    have hcd := coded2 E B0 w1.drew (HE.out _ h1d.below) (HHn.out _ h1d.below) (erv E 1) 6 (.inr ⟨5, by decide, rfl, rfl⟩) 6
    rw [show decide (((6 : Nat) : Int) = 6) = true by decide] at hcd
    unfold erv at hcd
    have HCD := hidd hcd
    have H1 := hidd h1d
    have HBX := hidd hbxd
    clear hcd h1d hln h1 hbx hbxd b0 b3
    first
      | (go_region_held3 (fun W' => W'.cell? ⟨bx, 3, none⟩ = some (.int .i64 n))
          (first | exact b3d | exact c4)
          (first
            | (go_at_call 39; (with_reducible refine HLN.out.mono ?_); rintro e w2 ⟨rfl, rfl⟩)
            | (go_at_call 40; (with_reducible refine HLM.out.mono ?_); rintro e w3 ⟨rfl, rfl⟩)
            | (go_at_call 14; (with_reducible refine HCD.out.mono ?_); rintro e w4 ⟨rfl, hb4⟩; have c4 := (HBX.out.below hb4 HBX.out.lt).cell (i := 3) rfl; have h4 := H1.out.ob hb4)))
      | fail
    have HP := hidd (show AfPost w0 t p r ps rs m tm q lv ls.length j (.returned (.bool true)) w4 from ⟨rfl, N, rv, K, T, V, us, ls, by omega, by omega, rfl, h4⟩)
    clear HLN HLM HCD H1 HBX b3d hb4 c4 h4
    go_wp2_with fail
    go_ret
    exact HP.out
  · obtain ⟨k, x, rfl, hTx⟩ := mapOf_nat hx
    have hkK : k < K := by
      by_cases hl : k < K
      · exact hl
      · rw [h1.md.fin k (by omega)] at hTx; cases hTx
    have hbig := (h1.tb.ok k x hTx).big
    have HLN := hidd (link_ok w0.heap.size t p r ps rs m N T us ls k x w1.drew h1d.tb (by omega) (by omega) hTx)
    have HLM := hidd (fun W (hW : MdAt W tm q lv rv K T V ls) => rlink_ok W tm q lv rv K T V ls hW k x hTx 1 (x.links + 1) (by omega) (by omega))
    have HCD := hidd (fun W (hW : Below w0.heap.size w0 W) => (by
      have hcd := coded2 E B0 W (HE.out _ hW) (HHn.out _ hW) .nilIface 0 (.inl ⟨rfl, rfl⟩) 0
      rw [show decide (((0 : Nat) : Int) = 0) = true by decide] at hcd
      exact hcd : Calls Tryz.prog 14 #[.nilIface, .int .i64 0] W fun e w' => e = .returned (.bool true) ∧ Below W.heap.size W w'))
    have H1 := hidd h1d
    have HBX := hidd hbxd
    clear h1d h1 hbx hbxd b0 b3
    first
      | (go_region_held3 (fun W' => W'.cell? ⟨bx, 3, none⟩ = some (.int .i64 (k : Int)))
          (first | exact b3d | exact c2 | exact c3 | exact c4)
          (first
            | (go_at_call 39; (with_reducible refine HLN.out.mono ?_); rintro e w2 ⟨rfl, htb2, hf2⟩; have hbx2 := HBX.out.fr hf2 (box_real H1.out.tb HBX.out); have c2 := hbx2.cell (i := 3) rfl; have hmd2 := md_real H1.out.tb H1.out.md H1.out.ne hf2)
            | (go_at_call 40; (with_reducible refine (HLM.out _ hmd2).mono ?_); rintro e w3 ⟨rfl, ⟨V3, hmd3⟩, hf3⟩; rw [if_neg (by omega)] at hmd3; have hf3m := hf3.mono (T := mdS tm q lv rv) (fun i _ hi => .inr (.inr (.inr hi))); have hbx3 := hbx2.fr hf3m (box_model hmd2 hbx2); have c3 := hbx3.cell (i := 3) rfl; have h3 := H1.out.step htb2 H1.out.sz rfl hf2 hmd3 (fun b hb => .inl hb) hf3m; have hb3 := h3.below)
            | (go_at_call 14; (with_reducible refine (HCD.out _ hb3).mono ?_); rintro e w4 ⟨rfl, hb4⟩; have c4 := (hbx3.below hb4 hbx3.lt).cell (i := 3) rfl; have h4 := h3.ob hb4)))
      | fail
    have HP := hidd (show AfPost w0 t p r ps rs m tm q lv ls.length j (.returned (.bool true)) w4 from ⟨rfl, N + 1, rv, K, _, V3, us, ls, by omega, by omega, rfl, h4⟩)
    clear HLN HLM HCD H1 HBX b3d hb4 c4 h4 h3 hmd3 hf3 hf3m hbx3 c3 htb2 hf2 hbx2 c2 hmd2 hb3
    go_wp2_with fail
    go_ret
    exact HP.out
set_option maxRecDepth 100000 in
set_option maxHeartbeats 8000000 in
theorem act_unlink (h : Bo w0 w t p r ps rs m N tm q lv rv K T V us ls) (hN : N ≤ j) (hK : K ≤ j) (hj : j ≤ 1000) (hE : ∀ W, Below w0.heap.size w0 W → Env codeGs B0 W E) (hH : ∀ W, Below w0.heap.size w0 W → Hnd W) (kind s : ByteArray) (ex : Bool) (n bit : Int) (hn : -9223372036854775808 ≤ n ∧ n ≤ 9223372036854775807) (hk0 : (kind.toList == [109, 97, 107, 101]) = false) (hk1 : (kind.toList == [108, 105, 110, 107]) = false) (hk : (kind.toList == [117, 110, 108, 105, 110, 107]) = true) :
    Calls Tryz.prog 18 #[.pointer (some ⟨t, 0, none⟩), .pointer (some ⟨tm, 0, none⟩), .agg #[.string kind, .string s, .bool ex, .int .i64 n, .int .i64 bit]] w (AfPost w0 t p r ps rs m tm q lv ls.length j) := by
  have hA := (Below.refl w.heap.size w).alloc (Nat.le_refl _) (.cells #[.string kind, .string s, .bool ex, .int .i64 n, .int .i64 bit] 50)
  have hbx := Blk.new w [.string kind, .string s, .bool ex, .int .i64 n, .int .i64 bit] 50
  have h1 := h.ob hA
  have HE := hidd hE
  have HHn := hidd hH
  clear h hE hH
  go_enter Tryz.func18, Tryz.ntmps18
  go_upto_region 1 with fail
  obtain ⟨bx, hbe⟩ : ∃ bx, w.heap.size = bx := ⟨_, rfl⟩
  rw [hbe] at hbx ⊢
  clear hbe hA
  generalize w.alloc (.cells #[.string kind, .string s, .bool ex, .int .i64 n, .int .i64 bit] 50) = w1 at *
  have b0 := hbx.cell (i := 0) rfl
  have b3 := hbx.cell (i := 3) rfl
  have b3d : w1.drew.cell? ⟨bx, 3, none⟩ = some (.int .i64 n) := b3
  have h1d := h1.ob ((Below.refl w1.heap.size w1).drew)
  have hbxd : Blk w1.drew bx _ _ := hbx
  go_upto_region 9 with fail
  by_cases hx : mapOf T n = none
  · have hln := unlink_none w0.heap.size t p r ps rs m N T us ls n w1.drew E h1d.tb hn hx ((HE.out _ h1d.below).cell _ (by decide))
    unfold erv at hln
    have HLN := hidd hln
    have HLM := hidd (rlink_none w1.drew tm q lv rv K T V ls h1d.md n (-1) hn hx)
    have hcd := coded2 E B0 w1.drew (HE.out _ h1d.below) (HHn.out _ h1d.below) (erv E 1) 6 (.inr ⟨5, by decide, rfl, rfl⟩) 6
    rw [show decide (((6 : Nat) : Int) = 6) = true by decide] at hcd
    unfold erv at hcd
    have HCD := hidd hcd
    have H1 := hidd h1d
    have HBX := hidd hbxd
    clear hcd h1d hln h1 hbx hbxd b0 b3
    first
      | (go_region_held3 (fun W' => W'.cell? ⟨bx, 3, none⟩ = some (.int .i64 n))
          (first | exact b3d | exact c4)
          (first
            | (go_at_call 41; (with_reducible refine HLN.out.mono ?_); rintro e w2 ⟨rfl, rfl⟩)
            | (go_at_call 40; (with_reducible refine HLM.out.mono ?_); rintro e w3 ⟨rfl, rfl⟩)
            | (go_at_call 14; (with_reducible refine HCD.out.mono ?_); rintro e w4 ⟨rfl, hb4⟩; have c4 := (HBX.out.below hb4 HBX.out.lt).cell (i := 3) rfl; have h4 := H1.out.ob hb4)))
      | fail
    have HP := hidd (show AfPost w0 t p r ps rs m tm q lv ls.length j (.returned (.bool true)) w4 from ⟨rfl, N, rv, K, T, V, us, ls, by omega, by omega, rfl, h4⟩)
    clear HLN HLM HCD H1 HBX b3d hb4 c4 h4
    go_wp2_with fail
    go_ret
    exact HP.out
  · obtain ⟨k, x, rfl, hTx⟩ := mapOf_nat hx
    have hkK : k < K := by
      by_cases hl : k < K
      · exact hl
      · rw [h1.md.fin k (by omega)] at hTx; cases hTx
    have hbig := (h1.tb.ok k x hTx).big
    by_cases hl1 : x.links = 1
    · have HLN := hidd (unlink_last w0.heap.size t p r ps rs m N T us ls k x w1.drew h1d.tb (by omega) hTx hl1)
      have HLM := hidd (fun W (hW : MdAt W tm q lv rv K T V ls) => rlink_ok W tm q lv rv K T V ls hW k x hTx (-1) 0 (by omega) (by omega))
      have HCD := hidd (fun W (hW : Below w0.heap.size w0 W) => (by
        have hcd := coded2 E B0 W (HE.out _ hW) (HHn.out _ hW) .nilIface 0 (.inl ⟨rfl, rfl⟩) 0
        rw [show decide (((0 : Nat) : Int) = 0) = true by decide] at hcd
        exact hcd : Calls Tryz.prog 14 #[.nilIface, .int .i64 0] W fun e w' => e = .returned (.bool true) ∧ Below W.heap.size W w'))
      have H1 := hidd h1d
      have HBX := hidd hbxd
      clear h1d h1 hbx hbxd b0 b3
      first
        | (go_region_held3 (fun W' => W'.cell? ⟨bx, 3, none⟩ = some (.int .i64 (k : Int)))
            (first | exact b3d | exact c2 | exact c3 | exact c4)
            (first
              | (go_at_call 41; (with_reducible refine HLN.out.mono ?_); rintro e w2 ⟨rfl, htb2, hf2⟩; have hbx2 := HBX.out.fr hf2 (box_real H1.out.tb HBX.out); have c2 := hbx2.cell (i := 3) rfl; have hmd2 := md_real H1.out.tb H1.out.md H1.out.ne hf2)
              | (go_at_call 40; (with_reducible refine (HLM.out _ hmd2).mono ?_); rintro e w3 ⟨rfl, ⟨V3, hmd3⟩, hf3⟩; rw [if_pos rfl] at hmd3; have hf3m := hf3.mono (T := mdS tm q lv rv) (fun i _ hi => .inr (.inr (.inr hi))); have hbx3 := hbx2.fr hf3m (box_model hmd2 hbx2); have c3 := hbx3.cell (i := 3) rfl; have h3 := H1.out.step htb2 H1.out.sz rfl hf2 hmd3 (fun b hb => .inl hb) hf3m; have hb3 := h3.below)
              | (go_at_call 14; (with_reducible refine (HCD.out _ hb3).mono ?_); rintro e w4 ⟨rfl, hb4⟩; have c4 := (hbx3.below hb4 hbx3.lt).cell (i := 3) rfl; have h4 := h3.ob hb4)))
        | fail
      have HP := hidd (show AfPost w0 t p r ps rs m tm q lv ls.length j (.returned (.bool true)) w4 from ⟨rfl, N, rv, K, _, V3, _, ls, by omega, by omega, rfl, h4⟩)
      clear HLN HLM HCD H1 HBX b3d hb4 c4 h4 h3 hmd3 hf3 hf3m hbx3 c3 htb2 hf2 hbx2 c2 hmd2 hb3
      go_wp2_with fail
      go_ret
      exact HP.out

    · obtain ⟨l, hl⟩ : ∃ l, x.links = l + 1 := ⟨x.links - 1, by have := (h1.tb.ok k x hTx).pos; omega⟩
      have hlp : 1 ≤ l := by have := (h1.tb.ok k x hTx).pos; omega
      have HLN := hidd (unlink_more w0.heap.size t p r ps rs m N T us ls k x w1.drew h1d.tb (by omega) (by omega) hTx l hl hlp)
      have HLM := hidd (fun W (hW : MdAt W tm q lv rv K T V ls) => rlink_ok W tm q lv rv K T V ls hW k x hTx (-1) l (by omega) (by omega))
      have HCD := hidd (fun W (hW : Below w0.heap.size w0 W) => (by
        have hcd := coded2 E B0 W (HE.out _ hW) (HHn.out _ hW) .nilIface 0 (.inl ⟨rfl, rfl⟩) 0
        rw [show decide (((0 : Nat) : Int) = 0) = true by decide] at hcd
        exact hcd : Calls Tryz.prog 14 #[.nilIface, .int .i64 0] W fun e w' => e = .returned (.bool true) ∧ Below W.heap.size W w'))
      have H1 := hidd h1d
      have HBX := hidd hbxd
      clear h1d h1 hbx hbxd b0 b3
      first
        | (go_region_held3 (fun W' => W'.cell? ⟨bx, 3, none⟩ = some (.int .i64 (k : Int)))
            (first | exact b3d | exact c2 | exact c3 | exact c4)
            (first
              | (go_at_call 41; (with_reducible refine HLN.out.mono ?_); rintro e w2 ⟨rfl, htb2, hf2⟩; have hbx2 := HBX.out.fr hf2 (box_real H1.out.tb HBX.out); have c2 := hbx2.cell (i := 3) rfl; have hmd2 := md_real H1.out.tb H1.out.md H1.out.ne hf2)
              | (go_at_call 40; (with_reducible refine (HLM.out _ hmd2).mono ?_); rintro e w3 ⟨rfl, ⟨V3, hmd3⟩, hf3⟩; rw [if_neg (by omega)] at hmd3; have hf3m := hf3.mono (T := mdS tm q lv rv) (fun i _ hi => .inr (.inr (.inr hi))); have hbx3 := hbx2.fr hf3m (box_model hmd2 hbx2); have c3 := hbx3.cell (i := 3) rfl; have h3 := H1.out.step htb2 H1.out.sz rfl hf2 hmd3 (fun b hb => .inl hb) hf3m; have hb3 := h3.below)
              | (go_at_call 14; (with_reducible refine (HCD.out _ hb3).mono ?_); rintro e w4 ⟨rfl, hb4⟩; have c4 := (hbx3.below hb4 hbx3.lt).cell (i := 3) rfl; have h4 := h3.ob hb4)))
        | fail
      have HP := hidd (show AfPost w0 t p r ps rs m tm q lv ls.length j (.returned (.bool true)) w4 from ⟨rfl, N + 1, rv, K, _, V3, us, ls, by omega, by omega, rfl, h4⟩)
      clear HLN HLM HCD H1 HBX b3d hb4 c4 h4 h3 hmd3 hf3 hf3m hbx3 c3 htb2 hf2 hbx2 c2 hmd2 hb3
      go_wp2_with fail
      go_ret
      exact HP.out

end
end Go.Proofs.YtcpilhembdphoaaGreatDoor

namespace Go.Proofs.YtcpilhembdphoaaGreatDoor
open Go.RowKit

theorem MdAt.disk {w w' : World} {tm q K : Nat} {lv rv : Value} {T : Nat → Option Ino} {V : Nat → Value} {ls ls' : List ByteArray} (h : MdAt w tm q lv rv K T V ls) (hf : Fr (fun b => b = q ∨ lv.ownBlock = some b) w w') (hd : DrAt w' q lv (.slice none 0 0) ls' []) : MdAt w' tm q lv rv K T V ls' where
  tab := h.tab.fr hf (by
    rintro (e | e)
    · exact blk_ne h.tab h.dk.head (by decide) e
    · exact own_ne h.dk.l h.tab (by decide) e)
  dk := hd
  row := h.row.fr hf (by
    rintro g hg (e | e)
    · exact own_ne h.row h.dk.head (by decide) (e ▸ hg)
    · exact own_ne_own h.row h.dk.l (by decide) hg e)
  bl := fun k x hx => (h.bl k x hx).fr hf (by
    rintro g hg (e | e)
    · exact own_ne (h.bl k x hx) h.dk.head (by decide) (e ▸ hg)
    · exact own_ne_own (h.bl k x hx) h.dk.l (by decide) hg e)
  fin := h.fin
  few := h.few
section
variable (E : Nat → Addr) (B0 : Nat) (w0 w : World) (t p r ps rs m N tm q : Nat) (lv rv : Value) (K : Nat) (T : Nat → Option Ino) (V : Nat → Value) (us : List Bool) (ls : List ByteArray) (j : Nat)
set_option maxRecDepth 100000 in
set_option maxHeartbeats 8000000 in
theorem act_rot (h : Bo w0 w t p r ps rs m N tm q lv rv K T V us ls) (hN : N ≤ j) (hK : K ≤ j) (hE : ∀ W, Below w0.heap.size w0 W → Env codeGs B0 W E) (hH : ∀ W, Below w0.heap.size w0 W → Hnd W) (kind s : ByteArray) (ex : Bool) (n bit : Int) (hk0 : (kind.toList == [109, 97, 107, 101]) = false) (hk1 : (kind.toList == [108, 105, 110, 107]) = false) (hk2 : (kind.toList == [117, 110, 108, 105, 110, 107]) = false) (hk3 : (kind.toList == [109, 101, 110, 100]) = false) :
    Calls Tryz.prog 18 #[.pointer (some ⟨t, 0, none⟩), .pointer (some ⟨tm, 0, none⟩), .agg #[.string kind, .string s, .bool ex, .int .i64 n, .int .i64 bit]] w (AfPost w0 t p r ps rs m tm q lv ls.length j) := by
  have hA := (Below.refl w.heap.size w).alloc (Nat.le_refl _) (.cells #[.string kind, .string s, .bool ex, .int .i64 n, .int .i64 bit] 50)
  have hbx := Blk.new w [.string kind, .string s, .bool ex, .int .i64 n, .int .i64 bit] 50
  have h1 := h.ob hA
  have HE := hidd hE
  have HHn := hidd hH
  obtain ⟨la, lc, hlv⟩ := h.md.dk.l.shape
  subst hlv
  clear h hE hH
  go_enter Tryz.func18, Tryz.ntmps18
  go_upto_region 1 with fail
  obtain ⟨bx, hbe⟩ : ∃ bx, w.heap.size = bx := ⟨_, rfl⟩
  rw [hbe] at hbx ⊢
  clear hbe hA
  generalize w.alloc (.cells #[.string kind, .string s, .bool ex, .int .i64 n, .int .i64 bit] 50) = w1 at *
  have b0 := hbx.cell (i := 0) rfl
  have b3 := hbx.cell (i := 3) rfl
  have b4 := hbx.cell (i := 4) rfl
  have m0 := h1.md.c0
  have l0 := h1.md.dk.head.cell (i := 0) rfl
  by_cases hbad : n < 0 ∨ (ls.length : Int) ≤ n ∨ bit < 0 ∨ 128 ≤ bit
  · have H1 := hidd h1
    have HBX := hidd hbx
    have HBAD := hidd (show badK ls.length n = true ∨ bit < 0 ∨ 128 ≤ bit by
      rcases hbad with e | e | e | e
      · exact .inl (by unfold badK; simp [e])
      · exact .inl (by unfold badK; simp [e])
      · exact .inr (.inl e)
      · exact .inr (.inr e))
    clear h1 hbx
    have hcases : n < 0 ∨ (¬ n < 0 ∧ (ls.length : Int) ≤ n) ∨ (¬ n < 0 ∧ ¬ (ls.length : Int) ≤ n ∧ bit < 0) ∨ (¬ n < 0 ∧ ¬ (ls.length : Int) ≤ n ∧ ¬ bit < 0 ∧ 128 ≤ bit) := by omega
    clear hbad
    rcases hcases with c1 | ⟨c1, c2⟩ | ⟨c1, c2, c3⟩ | ⟨c1, c2, c3, c4⟩
    all_goals
      go_upto_region 12 with fail
      go_quiet (fail)
      have hq := below_dn w1 nq
      have h2 := H1.out.ob hq
      have hbx2 := HBX.out.below hq HBX.out.lt
      clear b0 b3 b4 m0 l0
      generalize w1.drewN nq = w2 at *
      go_upto_region 13 with fail
      have h2d := h2.ob ((Below.refl w2.heap.size w2).drew)
      have hbxd : Blk w2.drew bx _ _ := hbx2
      have b3 : w2.drew.cell? ⟨bx, 3, none⟩ = some (.int .i64 n) := hbxd.cell (i := 3) rfl
      have b4 : w2.drew.cell? ⟨bx, 4, none⟩ = some (.int .i64 bit) := hbxd.cell (i := 4) rfl
      have hcd0 := h2d.tb.c0
      have hrb := rot_bad E p r _ ls [] n bit w2.drew h2d.tb.dk HBAD.out B0 codeGs (HE.out _ h2d.below) (by decide)
      unfold erv at hrb
      have HRB := hidd hrb
      have hcd := coded2 E B0 w2.drew (HE.out _ h2d.below) (HHn.out _ h2d.below) (erv E 0) 2 (.inr ⟨1, by decide, rfl, rfl⟩) 2
      rw [show decide (((2 : Nat) : Int) = 2) = true by decide] at hcd
      unfold erv at hcd
      have HCD := hidd hcd
      have HBD := hidd hbxd
      have H2 := hidd h2d
      clear hcd hrb h2 h2d hbx2 hbxd hq
      first
        | (go_region_held3 (fun W' => W'.cell? ⟨bx, 3, none⟩ = some (.int .i64 n) ∧ W'.cell? ⟨bx, 4, none⟩ = some (.int .i64 bit))
            (first | exact ⟨b3, b4⟩ | exact ⟨e3, e4⟩)
            (first
              | (go_at_call 9; (with_reducible refine (tdisk_any t p _ hcd0).mono ?_); rintro e w9 ⟨rfl, rfl⟩)
              | (go_at_call 10; (with_reducible refine HRB.out.mono ?_); rintro e w3 ⟨rfl, rfl⟩)
              | (go_at_call 14; (with_reducible refine HCD.out.mono ?_); rintro e w4 ⟨rfl, hb4⟩; have e3 := (HBD.out.below hb4 HBD.out.lt).cell (i := 3) rfl; have e4 := (HBD.out.below hb4 HBD.out.lt).cell (i := 4) rfl; have h4 := H2.out.ob hb4)))
        | fail
      have HP := hidd (show AfPost w0 t p r ps rs m tm q (.slice la ls.length lc) ls.length j (.returned (.bool true)) w4 from ⟨rfl, N, rv, K, T, V, us, ls, by omega, by omega, rfl, h4⟩)
      clear HRB HCD H1 HBX HBD H2 hb4 h4 e3 e4 b3 b4
      go_wp2_with fail
      go_ret
      exact HP.out
  · obtain ⟨k, rfl⟩ := Int.eq_ofNat_of_zero_le (show 0 ≤ n by omega)
    obtain ⟨bt, rfl⟩ := Int.eq_ofNat_of_zero_le (show 0 ≤ bit by omega)
    have c1 : ¬ (k : Int) < 0 := by omega
    have c2 : ¬ (ls.length : Int) ≤ (k : Int) := by omega
    have c3 : ¬ (bt : Int) < 0 := by omega
    have c4 : ¬ (128 : Int) ≤ (bt : Int) := by omega
    have hkl : k < ls.length := by omega
    have hbt : bt < 128 := by omega
    have H1 := hidd h1
    have HBX := hidd hbx
    clear h1 hbx hbad
    go_upto_region 12 with fail
    go_quiet (fail)
    have hq := below_dn w1 nq
    have h2 := H1.out.ob hq
    have hbx2 := HBX.out.below hq HBX.out.lt
    clear b0 b3 b4 m0 l0
    generalize w1.drewN nq = w2 at *
    have b3 := hbx2.cell (i := 3) rfl
    have b4 := hbx2.cell (i := 4) rfl
    have m0 := h2.md.c0
    go_upto_region 14 with fail
    have h2d := h2.ob ((Below.refl w2.heap.size w2).drew)
    have hbxd : Blk w2.drew bx _ _ := hbx2
    have b3d : w2.drew.cell? ⟨bx, 3, none⟩ = some (.int .i64 (k : Int)) := b3
    have b4d : w2.drew.cell? ⟨bx, 4, none⟩ = some (.int .i64 (bt : Int)) := b4
    have m0d : w2.drew.cell? ⟨tm, 0, none⟩ = _ := m0
    have HRR := hidd (rrot_any q _ (.slice none 0 0) ls [] k bt w2.drew h2d.md.dk h2d.sz hkl hbt)
    have HBD := hidd hbxd
    have H2 := hidd h2d
    clear h2 h2d hbx2 hbxd hq
    first
      | (go_region_held3 (fun W' => W'.cell? ⟨bx, 3, none⟩ = some (.int .i64 (k : Int)) ∧ W'.cell? ⟨bx, 4, none⟩ = some (.int .i64 (bt : Int)) ∧ W'.cell? ⟨tm, 0, none⟩ = some (.pointer (some ⟨q, 0, none⟩)))
          (first | exact ⟨b3d, b4d, m0d⟩ | exact ⟨e3, e4, e5⟩)
          (first
            | (go_at_call 42; (with_reducible refine HRR.out.mono ?_); rintro e w3 ⟨⟨u, rfl⟩, hd3, hf3⟩; have hf3' := hf3.mono (T := fun b => b = q ∨ (Value.slice la ls.length lc).ownBlock = some b) (fun i _ hi => by rcases hi with e | e | e; exact .inl e; exact .inr e; simp [Value.ownBlock] at e); have hmd3 := H2.out.md.disk hf3' hd3; have hf3m := hf3'.mono (T := mdS tm q (.slice la ls.length lc) rv) (fun i _ hi => by rcases hi with e | e; exact .inr (.inl e); exact .inr (.inr (.inl e))); have hbx3 := HBD.out.fr hf3m (box_model H2.out.md HBD.out); have e3 := hbx3.cell (i := 3) rfl; have e4 := hbx3.cell (i := 4) rfl; have e5 := hmd3.c0)))
      | fail
    have htb3 := tb_model H2.out.tb H2.out.md H2.out.ne hf3m
    have hb3 : Below w0.heap.size w0 w3 := H2.out.below.trans (hf3m.below H2.out.below.size H2.out.low)
    have HRT := hidd (rot_ok p r _ ls [] k bt w3.drew (htb3.ob ((Below.refl w3.heap.size w3).drew)).dk H2.out.sz hkl hbt)
    have HBD3 := hidd hbx3
    have HMD3 := hidd hmd3
    have HTB3 := hidd htb3
    have HB3 := hidd hb3
    have f3 : w3.drew.cell? ⟨bx, 3, none⟩ = some (.int .i64 (k : Int)) := e3
    have f4 : w3.drew.cell? ⟨bx, 4, none⟩ = some (.int .i64 (bt : Int)) := e4
    have hcd0 : w3.drew.cell? ⟨t, 0, none⟩ = some (.pointer (some ⟨p, 0, none⟩)) := htb3.c0
    have HCD := hidd (fun W (hW : Below w0.heap.size w0 W) => (by
      have hcd := coded2 E B0 W (HE.out _ hW) (HHn.out _ hW) .nilIface 0 (.inl ⟨rfl, rfl⟩) 0
      rw [show decide (((0 : Nat) : Int) = 0) = true by decide] at hcd
      exact hcd : Calls Tryz.prog 14 #[.nilIface, .int .i64 0] W fun e w' => e = .returned (.bool true) ∧ Below W.heap.size W w'))
    clear HRR b3 b4 b3d b4d m0 m0d hd3 hf3 hf3' hmd3 hf3m hbx3 e3 e4 e5 htb3 hb3
    go_upto_region 15 with fail
    first
      | (go_region_held3 (fun W' => W'.cell? ⟨bx, 3, none⟩ = some (.int .i64 (k : Int)) ∧ W'.cell? ⟨bx, 4, none⟩ = some (.int .i64 (bt : Int)))
          (first | exact ⟨f3, f4⟩ | exact ⟨g3, g4⟩ | exact ⟨i3, i4⟩)
          (first
            | (go_at_call 9; (with_reducible refine (tdisk_any t p _ hcd0).mono ?_); rintro e w9 ⟨rfl, rfl⟩)
            | (go_at_call 10; (with_reducible refine HRT.out.mono ?_); rintro e w4 ⟨rfl, hdk4, hf4⟩; have hf4' := hf4.mono (T := fun b => b = p ∨ b = r) (fun i _ hi => by rcases hi with e | e | e; exact .inl e; exact .inr e; simp [Value.ownBlock] at e); have hf4t := hf4'.mono (T := tbS p r rs m T) (fun i _ hi => by rcases hi with e | e; exact .inl e; exact .inr (.inl e)); have htb4 := (HTB3.out.ob ((Below.refl w3.heap.size w3).drew)).disk hf4' hdk4 (by simp); have hmd4 := md_real (HTB3.out.ob ((Below.refl w3.heap.size w3).drew)) (HMD3.out.ob ((Below.refl w3.heap.size w3).drew)) H2.out.ne hf4t; have hbx4 : Blk w4 bx _ _ := (HBD3.out.drew).fr hf4t (box_real (HTB3.out.ob ((Below.refl w3.heap.size w3).drew)) HBD3.out.drew); have g3 := hbx4.cell (i := 3) rfl; have g4 := hbx4.cell (i := 4) rfl; have hb4 : Below w0.heap.size w0 w4 := (HB3.out.drew).trans (hf4t.below HB3.out.size HTB3.out.baseS))
            | (go_at_call 14; (with_reducible refine (HCD.out _ hb4).mono ?_); rintro e w5 ⟨rfl, hb5⟩; have i3 := (hbx4.below hb5 hbx4.lt).cell (i := 3) rfl; have i4 := (hbx4.below hb5 hbx4.lt).cell (i := 4) rfl)))
      | fail
    have h4 : Bo w0 w4 t p r ps rs m N tm q (.slice la ls.length lc) rv K T V us (ls.set k (turn (ls.getD k ByteArray.empty) bt)) := ⟨htb4, hmd4, H2.out.sz.put k (by rw [turn_size]; exact H2.out.sz.at hkl), H2.out.ne, H2.out.low, hb4, by rw [List.length_set]; exact H2.out.pos, by rw [List.length_set]; exact H2.out.few⟩
    have HP := hidd (show AfPost w0 t p r ps rs m tm q (.slice la ls.length lc) ls.length j (.returned (.bool true)) w5 from ⟨rfl, N, rv, K, T, V, us, _, by omega, by omega, List.length_set .., h4.ob hb5⟩)
    clear HRT HBD3 HMD3 HTB3 HB3 HCD H2 HBD H1 HBX hdk4 hf4 hf4' hf4t htb4 hmd4 hbx4 g3 g4 hb4 i3 i4 f3 f4 hcd0 h4 hb5
    go_wp2_with fail
    go_ret
    exact HP.out
end
end Go.Proofs.YtcpilhembdphoaaGreatDoor
