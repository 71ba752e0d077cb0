/- Make where it fails; a new table; the law's small functions. Condition: the table is one that New gave. -/
import Derived.Test.YtcdbocbiephpiaaGreatDoorIn7
import Derived.Test.YtcdbocbiephpiaaGreatDoorIn1
import Derived.Test.YtcdbocbiephpiaaGreatDoorNd
import Derived.Test.YtcdbocbiephpiaaGreatDoorLaw
namespace Go.Proofs.YtcdbocbiephpiaaGreatDoor
open Go.RowKit

theorem make_big (t : Value) (data : ByteArray) (ex : Bool) (w : World) (E : Nat → Addr) (hd : 2000 < data.size) (hE : w.cell? ⟨3, 0, none⟩ = some (erv E 3)) :
    Calls Tryz.prog 29 #[t, .string data, .bool ex] w fun e w' => e = .returned (.tuple #[.int .i64 0, erv E 3]) ∧ Below w.heap.size w w' := by
  have hd1 : (2000 : Int) < (data.size : Int) := by omega
  unfold erv at *
  have hE2 : w.drew.cell? ⟨3, 0, none⟩ = some (.iface 242 (.pointer (some (E 3)))) := hE
  go_enter Tryz.func29, Tryz.ntmps29
  go_wp2_with fail
  go_quiet (fail)
  go_wp2_with fail
  go_ret2
  exact ⟨rfl, Below.drewN _ _ _⟩

set_option maxHeartbeats 1000000 in
theorem make_full {pc : Prop} (B t p r ps rs m N : Nat) (T : Nat → Option Ino) (us : List Bool) (ls : List ByteArray) (data : ByteArray) (ex : Bool) (w : World) (h : TbAt pc w B t p r ps rs m N T us ls) (hds : data.size ≤ 2000) (hk : ¬ needN data.size ≤ nfree us) (E : Nat → Addr) (G : List Nat) (B0 : Nat) (hE : Env G B0 w E) (hg : 0 ∈ G) :
    Calls Tryz.prog 29 #[.pointer (some ⟨t, 0, none⟩), .string data, .bool ex] w fun e w' => e = .returned (.tuple #[.int .i64 0, erv E 0]) ∧ Below w.heap.size w w' := by
  have hd1 : ¬ (2000 : Int) < (data.size : Int) := by omega
  have hc1 := h.c1
  obtain ⟨kn, hkn⟩ : ∃ kn, kn = needN data.size := ⟨_, rfl⟩
  have HTK : Hid (Calls Tryz.prog 56 #[.pointer (some ⟨ps, 0, none⟩), .int .i64 (kn : Int)] w.drew fun e w' => e = .returned (.tuple #[.slice none 0 0, erv E 0]) ∧ Below w.drew.heap.size w.drew w') := hidd (by
    rw [hkn]; exact take_full E ps rs us _ w.drew h.sp.drew (by omega) (by omega) B0 G (hE.ob ((Below.refl _ w).drew)) hg)
  have HND : Hid (∀ W, Calls Tryz.prog 51 #[.int .i64 (data.size : Int)] W fun e w' => e = .returned (.int .i64 (kn : Int)) ∧ W = w') := hidd (fun W => by rw [hkn]; exact need_nat _ W hds)
  have HC1 : Hid (∀ W, Below w.heap.size w.drew W → W.cell? ⟨t, 1, none⟩ = some (.pointer (some ⟨ps, 0, none⟩))) := hidd (fun W hW => (h.ob ((Below.refl _ w).drew.trans hW)).c1)
  unfold erv at *
  clear h hkn hk hE
  go_enter Tryz.func29, Tryz.ntmps29
  go_wp2_with fail
  go_region_held3 (fun W => W.cell? ⟨t, 1, none⟩ = some (.pointer (some ⟨ps, 0, none⟩)))
    (first | exact hc1 | exact HC1.out _ hf1)
    (first | (go_at_call 51; refine (HND.out _).mono ?_; rintro e w9 ⟨rfl, rfl⟩) | (go_at_call 56; refine HTK.out.mono ?_; rintro e w1 ⟨rfl, hf1⟩))
  go_wp2_with fail
  go_ret2
  exact ⟨rfl, (Below.refl _ w).drew.trans hf1⟩

/-- A new table. -/
def TnPost (pc : Prop) (n : Nat) (w : World) (e : Ending) (w' : World) : Prop := ∃ t p r ps rs m v, e = .returned (.tuple #[.pointer (some ⟨t, 0, none⟩), v, .bool true]) ∧
  TbAt pc w' w.heap.size t p r ps rs m 0 (fun _ => none) (List.replicate n false) (List.replicate n (zb 16)) ∧ Below w.heap.size w w'
theorem tb_start {pc : Prop} {n p r t ps rs m B : Nat} {w : World} (hdk : DkAt w p r (.slice none 0 0) (List.replicate n (zb 16)) []) (hb : Blk w t [.pointer (some ⟨p, 0, none⟩), .pointer (some ⟨ps, 0, none⟩), .map (some m)] 109) (hs : SpAt w ps rs (List.replicate n false)) (hm : w.heap[m]? = some (.map #[] 0))
    (hB : B ≤ p ∧ B ≤ r ∧ B ≤ ps ∧ B ≤ rs ∧ B ≤ m ∧ B ≤ t) : TbAt pc w B t p r ps rs m 0 (fun _ => none) (List.replicate n false) (List.replicate n (zb 16)) where
  tab := hb
  dk := hdk
  sp := hs
  mp := ⟨0, Nat.le_refl _, by
    have := MapIs.of_heap hm
    have e : mapOf (fun _ => none) = fun _ => none := by funext i; simp [mapOf]
    rw [e]; exact this⟩
  ino := fun _ _ h => by cases h
  ok := fun _ _ h => by cases h
  inj := fun _ _ _ _ h => by cases h
  dis := fun _ _ _ _ h => by cases h
  usd := fun b => by
    constructor
    · intro h
      rw [List.getD_eq_getElem?_getD] at h
      by_cases hb : b < n
      · rw [List.getElem?_eq_getElem (by simpa using hb)] at h; simp at h
      · rw [List.getElem?_eq_none (by simp; omega)] at h; cases h
    · rintro ⟨k, x, h, -⟩; cases h
  len := by simp
  fin := ⟨0, Nat.le_refl _, fun _ _ => rfl⟩
  base := hB
  bases := fun _ _ h => by cases h

set_option maxRecDepth 100000 in
set_option maxHeartbeats 1000000 in
theorem tableOf_ok {pc : Prop} (n : Nat) (w : World) (h1 : 1 ≤ n) (h2 : n ≤ 512) : Calls Tryz.prog 22 #[.int .i64 (n : Int)] w (TnPost pc n w) := by
  go_enter Tryz.func22, Tryz.ntmps22
  go_wp2_with fail
  refine (rnew_any n _ h2).mono ?_
  rintro e w1 ⟨⟨q, rfl⟩, hb1⟩
  go_wp2_with fail
  refine (dnew_ok n _ h1 h2).mono ?_
  rintro e w2 ⟨p, r, rfl, hdk, g1, g2, hb2⟩
  have hB2 : Below w.heap.size w w2 := (hb1.alloc hb1.size (.cells #[.pointer (some ⟨q, 0, none⟩), .slice none 0 0] 116)).trans (hb2.mono (by have := hb1.size; simp; omega))
  have HB2 := hidd hB2
  have HG : Hid (w.heap.size ≤ p ∧ w.heap.size ≤ r) := hidd (by have := hb1.size; simp at g1 g2; omega)
  have hlen : (List.replicate n (zb 16)).length = n := by simp
  have hin := inew_ok p r _ (List.replicate n (zb 16)) [] w2 hdk (by rw [hlen]; exact h1) (by rw [hlen]; exact h2)
  rw [hlen] at hin
  clear hb1 hb2 hB2 g1 g2
  go_wp2_with fail
  refine hin.mono ?_
  rintro e w3 ⟨t, ps, rs, m, rfl, hb, hs, hm, e1, e2, e3, e4, -, -, -, -, -, hb3⟩
  have hsz := HB2.out.size
  have HP : Hid (TnPost pc n w (.returned (.tuple #[.pointer (some ⟨t, 0, none⟩), .pointer (some ⟨w1.heap.size, 0, none⟩), .bool true])) w3) := hidd
    ⟨t, p, r, ps, rs, m, _, rfl, tb_start (hdk.ob hb3 (Nat.le_refl _)) hb hs hm (by have := HG.out; omega), HB2.out.trans (hb3.mono hsz)⟩
  clear hin hdk hb hs hm hb3
  go_wp2_with fail
  refine bodyPost_ret (results_tmp3 rfl _ _ _) rfl ?_
  exact HP

end Go.Proofs.YtcdbocbiephpiaaGreatDoor
