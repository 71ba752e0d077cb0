/- Make. Condition: the table is one that New gave. · Make where it fails; a new table; the law's small functions. Condition: the table is one that New gave. -/
import Derived.Test.YtoemahhpheobkaaGreatDoorIn6
import Derived.Test.YtoemahhpheobkaaGreatDoorSpC
import Derived.Deep.RegionLaw
import Derived.Test.YtoemahhpheobkaaGreatDoorIn2
import Derived.Test.YtoemahhpheobkaaGreatDoorNd
import Derived.Test.YtoemahhpheobkaaGreatDoorLaw
namespace Go.Proofs.YtoemahhpheobkaaGreatDoor
open Go.RowKit

/-- m[k] = a pointer, as an equation. -/
theorem MapIs.store {w : World} {m n : Nat} {f : Int → Option Nat} (h : MapIs w m n f) (hn : n ≤ 1000000) (k : Int) (b : Nat) (hk : -9223372036854775808 ≤ k ∧ k ≤ 9223372036854775807) :
    ∃ w', (Instr.mapUpdate 101 (.map (some m)) (.int .i64 k) (.pointer (some ⟨b, 0, none⟩))).run Tryz.prog w = .ok () w' ∧ MapIs w' m (n + 1) (fun i => if i = k then some b else f i) ∧ Fr (fun b => b = m) w w' := by
  obtain ⟨D, hD, hf⟩ := h
  obtain ⟨w', hrun, r1, r2⟩ := hD.store (Maps.int_keyed Tryz.underlying3) Tryz.underlying101 (by unfold maxLen; omega) (keyOf_of hk) (ptrElem_some b)
  refine ⟨w', hrun, ⟨_, r1, fun i hi z => ?_⟩, turned_fr r2⟩
  by_cases e : i = k
  · subst e
    rw [Maps.atKey_put_same hD.isMap (show WideAt.IsKeyLit (.int .i64 i) from trivial)]
    simp
  · rw [Maps.atKey_put_other (by simpa using e)]
    simp only [if_neg e]
    exact hf i hi z

theorem need_nat (n : Nat) (w : World) (h : n ≤ 2000) : Calls Tryz.prog 61 #[.int .i64 (n : Int)] w fun e w' => e = .returned (.int .i64 ((needN n : Nat) : Int)) ∧ w = w' := by
  refine (need_any (n : Int) w (by omega)).mono ?_
  rintro e w' ⟨rfl, rfl⟩
  refine ⟨?_, rfl⟩
  have : (if (n : Int) < 1 then 0 else ((n : Int) - 1) / 16 + 1) = ((needN n : Nat) : Int) := by
    unfold needN
    by_cases h1 : n < 1
    · rw [if_pos (by omega), if_pos h1]; rfl
    · rw [if_neg (by omega), if_neg h1]; omega
  rw [this]

section
variable {pc : Prop} {w w' : World} {B t p r ps rs m N : Nat} {T : Nat → Option Ino} {us : List Bool} {ls : List ByteArray}
theorem tk_full (us : List Bool) {k : Nat} (hk : k ≤ nfree us) : (tk us k us.length).1.length = k := by rw [tk_len, ← nfree_eq]; omega
theorem TbAt.add {pc : Prop} (h : TbAt pc w B t p r ps rs m N T us ls) {k0 : Nat} {x : Ino} (hn : T k0 = none) (hkN : k0 ≤ N) (hds : x.data.size ≤ 2000) (hk : needN x.data.size ≤ nfree us) (hbl : x.bl = (tk us (needN x.data.size) us.length).1) (hl : x.links = 1)
    (hf : Fr (fun b => b = p ∨ b = r ∨ b = rs ∨ b = m) w w') (hdk : DkAt w' p r (.slice none 0 0) (lsN ls x.bl x.data x.bl.length) []) (hsp : SpAt w' ps rs (tk us (needN x.data.size) us.length).2)
    (hmp : ∃ n, n ≤ N + 1 ∧ MapIs w' m n (mapOf (upd T k0 (some x)))) (hx : InoAt w' x) (hfresh : w.heap.size ≤ x.blk) (hB : B ≤ w.heap.size) :
    TbAt pc w' B t p r ps rs m (N + 1) (upd T k0 (some x)) (tk us (needN x.data.size) us.length).2 (lsN ls x.bl x.data x.bl.length) := by
  have hlen : x.bl.length = needN x.data.size := by rw [hbl]; exact tk_full us hk
  have hmem : ∀ b ∈ x.bl, us.getD b true = false := fun b hb => tk_mem us _ _ b (hbl ▸ hb)
  have hlt : ∀ b ∈ x.bl, b < ls.length := fun b hb => by rw [← h.len]; exact getD_false_lt (hmem b hb)
  have hnod : x.bl.Nodup := by rw [hbl]; exact tk_nodup _ _ _
  have hnew : ∀ b ∈ x.bl, ∀ k y, T k = some y → b ∉ y.bl := fun b hb k y hy hby => by
    have h1 := (h.usd b).2 ⟨k, y, hy, hby⟩
    have h2 := hmem b hb
    rw [getD_both (getD_true_lt h1), h1] at h2
    cases h2
  obtain ⟨n, hn', hm⟩ := h.mp
  have key : ∀ i y, upd T k0 (some x) i = some y → (i = k0 ∧ y = x) ∨ (i ≠ k0 ∧ T i = some y) := by
    intro i y hy
    by_cases e : i = k0
    · subst e; rw [upd_same] at hy; cases hy; exact .inl ⟨rfl, rfl⟩
    · rw [upd_other _ _ _ e] at hy; exact .inr ⟨e, hy⟩
  have hold : ∀ i y, T i = some y → y.blk < w.heap.size := fun i y hy => (h.ino i y hy).blk.lt
  refine { h with
    tab := h.tab.fr hf (fun e => h.tabN (by rcases e with e | e | e | e; exact .inl e; exact .inr (.inl e); exact .inr (.inr (.inl e)); exact .inr (.inr (.inr (.inl e)))))
    dk := hdk
    sp := hsp
    mp := hmp
    ino := fun i y hy => ?_
    ok := fun i y hy => ?_
    inj := fun i j y z hy hz hij => ?_
    dis := fun i j y z hy hz hij b hb => ?_
    usd := fun b => ?_
    len := by rw [tk_len2, lsN_len]; exact h.len
    fin := ?_
    bases := fun i y hy => ?_ }
  · rcases key i y hy with ⟨rfl, rfl⟩ | ⟨e, hy⟩
    · exact hx
    · have hya := h.ino i y hy
      refine hya.fr hf ?_ ?_
      · rintro (e' | e' | e' | e')
        · exact blk_ne hya.blk h.dk.head (by decide) e'
        · exact blk_ne hya.blk h.dk.row (by decide) e'
        · exact blk_ne hya.blk h.sp.row (by decide) e'
        · exact hm.ne_blk hya.blk e'.symm
      · rintro g hg hS
        refine h.apart hya.row g hg ?_
        rcases hS with e | e | e | e
        · exact .inl e
        · exact .inr (.inl e)
        · exact .inr (.inr (.inl e))
        · exact .inr (.inr (.inr (.inl e)))
  · rcases key i y hy with ⟨rfl, rfl⟩ | ⟨e, hy⟩
    · refine ⟨by omega, by omega, hlen, hnod, fun b hb => by rw [lsN_len]; exact hlt b hb, fun _ i hi => ?_, hds⟩
      exact lsN_at ls y.bl y.data ByteArray.empty hlt hnod _ (Nat.le_refl _) i hi
    · have hyo := h.ok i y hy
      refine { hyo with big := by have := hyo.big; omega, inr := fun b hb => by rw [lsN_len]; exact hyo.inr b hb, pcs := fun hp j hj => ?_ }
      rw [lsN_other]
      · exact hyo.pcs hp j hj
      · intro i' hi' e'
        have g1 : x.bl.getD i' 0 ∈ x.bl := by rw [List.getD_eq_getElem?_getD, List.getElem?_eq_getElem hi']; exact List.getElem_mem _
        have g2 : y.bl.getD j 0 ∈ y.bl := by rw [List.getD_eq_getElem?_getD, List.getElem?_eq_getElem hj]; exact List.getElem_mem _
        exact hnew _ g1 i y hy (e' ▸ g2)
  · rcases key i y hy with ⟨rfl, rfl⟩ | ⟨e, hy⟩
    · rcases key j z hz with ⟨rfl, rfl⟩ | ⟨e', hz⟩
      · exact absurd rfl hij
      · have := hold j z hz; omega
    · have hb9 := hold i y hy
      rcases key j z hz with ⟨rfl, rfl⟩ | ⟨e', hz⟩
      · omega
      · exact h.inj i j y z hy hz hij
  · rcases key i y hy with ⟨rfl, rfl⟩ | ⟨e, hy⟩
    · rcases key j z hz with ⟨rfl, rfl⟩ | ⟨e', hz⟩
      · exact absurd rfl hij
      · exact hnew b hb j z hz
    · have hb9 := fun (b' : Nat) (hb' : b' ∈ x.bl) => hnew b' hb' i y hy
      rcases key j z hz with ⟨rfl, rfl⟩ | ⟨e', hz⟩
      · exact fun hbz => hb9 b hbz hb
      · exact h.dis i j y z hy hz hij b hb
  · rw [tk_used, h.usd b, ← hbl]
    constructor
    · rintro (⟨i, y, hy, hb⟩ | hb)
      · exact ⟨i, y, by rw [upd_other _ _ _ (by rintro rfl; rw [hn] at hy; cases hy)]; exact hy, hb⟩
      · exact ⟨k0, x, upd_same _ _ _, hb⟩
    · rintro ⟨i, y, hy, hb⟩
      rcases key i y hy with ⟨rfl, rfl⟩ | ⟨e, hy⟩
      · exact .inr hb
      · exact .inl ⟨i, y, hy, hb⟩
  · obtain ⟨K, hK, hfin⟩ := h.fin
    refine ⟨max K (k0 + 1), by omega, fun i hi => ?_⟩
    rw [upd_other _ _ _ (by omega)]
    exact hfin i (by omega)
  · rcases key i y hy with ⟨rfl, rfl⟩ | ⟨e, hy⟩
    · omega
    · exact h.bases i y hy
end
/-- The least number that is free. -/
theorem least_free (T : Nat → Option Ino) : ∀ K, T K = none → ∃ k, k ≤ K ∧ T k = none ∧ ∀ j, j < k → ∃ y, T j = some y := by
  intro K
  induction K using Nat.strongRecOn with
  | _ K ih =>
    intro hK
    by_cases h : ∃ j, j < K ∧ T j = none
    · obtain ⟨j, hj, hn⟩ := h
      obtain ⟨k, hk, h1, h2⟩ := ih j hj hn
      exact ⟨k, by omega, h1, h2⟩
    · refine ⟨K, Nat.le_refl _, hK, fun j hj => ?_⟩
      cases hT : T j with
      | none => exact absurd ⟨j, hj, hT⟩ h
      | some y => exact ⟨y, rfl⟩

/-- What Make answers where there is room. -/
def MkPost (pc : Prop) (B t p r ps rs m N : Nat) (T : Nat → Option Ino) (us : List Bool) (ls : List ByteArray) (data : ByteArray) (ex : Bool) (w : World) (e : Ending) (w' : World) : Prop :=
  ∃ (k0 : Nat) (x : Ino), e = .returned (.tuple #[.int .i64 (k0 : Int), .nilIface]) ∧ k0 ≤ N ∧ T k0 = none ∧ (∀ j, j < k0 → ∃ y, T j = some y) ∧ x.data = data ∧ x.exec = ex ∧ x.links = 1 ∧ x.bl = (tk us (needN data.size) us.length).1 ∧
    TbAt pc w' B t p r ps rs m (N + 1) (upd T k0 (some x)) (tk us (needN data.size) us.length).2 (lsN ls x.bl data x.bl.length) ∧ Fr (fun b => b = p ∨ b = r ∨ b = rs ∨ b = m) w w' ∧ (∀ g, x.bv.ownBlock = some g → w.heap.size ≤ g)

/-- The same, and the inode's block is a new one. -/
def MkPostB (pc : Prop) (B t p r ps rs m N : Nat) (T : Nat → Option Ino) (us : List Bool) (ls : List ByteArray) (data : ByteArray) (ex : Bool) (w : World) (e : Ending) (w' : World) : Prop :=
  ∃ (k0 : Nat) (x : Ino), e = .returned (.tuple #[.int .i64 (k0 : Int), .nilIface]) ∧ k0 ≤ N ∧ T k0 = none ∧ (∀ j, j < k0 → ∃ y, T j = some y) ∧ x.data = data ∧ x.exec = ex ∧ x.links = 1 ∧ x.bl = (tk us (needN data.size) us.length).1 ∧
    TbAt pc w' B t p r ps rs m (N + 1) (upd T k0 (some x)) (tk us (needN data.size) us.length).2 (lsN ls x.bl data x.bl.length) ∧ Fr (fun b => b = p ∨ b = r ∨ b = rs ∨ b = m) w w' ∧ (∀ g, x.bv.ownBlock = some g → w.heap.size ≤ g) ∧ w.heap.size ≤ x.blk

set_option maxRecDepth 100000 in
set_option maxHeartbeats 4000000 in
theorem make_okb {pc : Prop} (B t p r ps rs m N : Nat) (T : Nat → Option Ino) (us : List Bool) (ls : List ByteArray) (data : ByteArray) (ex : Bool) (w : World) (h : TbAt pc w B t p r ps rs m N T us ls) (hN : N ≤ 1000000) (hB : B ≤ w.heap.size) (hds : data.size ≤ 2000) (hk : needN data.size ≤ nfree us) :
    Calls Tryz.prog 32 #[.pointer (some ⟨t, 0, none⟩), .string data, .bool ex] w (MkPostB pc B t p r ps rs m N T us ls data ex w) := by
  obtain ⟨k0, hkN, hk0, hkl⟩ : ∃ k, k ≤ N ∧ T k = none ∧ ∀ j, j < k → ∃ y, T j = some y := by
    obtain ⟨K, hK, hf⟩ := h.fin
    obtain ⟨k, h1, h2, h3⟩ := least_free T K (hf K (Nat.le_refl _))
    exact ⟨k, by omega, h2, h3⟩
  have hc1 := h.c1
  have hd1 : ¬ (2000 : Int) < (data.size : Int) := by omega
  obtain ⟨bl, hbl⟩ : ∃ bl, bl = (tk us (needN data.size) us.length).1 := ⟨_, rfl⟩
  obtain ⟨us2, hus2⟩ : ∃ us2, us2 = (tk us (needN data.size) us.length).2 := ⟨_, rfl⟩
  obtain ⟨kn, hkn⟩ : ∃ kn, kn = needN data.size := ⟨_, rfl⟩
  have hbln : bl.length = kn := by rw [hbl, hkn]; exact tk_full us hk
  have HTK : Hid (∀ W, SpAt W ps rs us → Calls Tryz.prog 65 #[.pointer (some ⟨ps, 0, none⟩), .int .i64 (kn : Int)] W fun e w' => ∃ a cap, e = .returned (.tuple #[.slice a kn cap, .nilIface]) ∧
      w'.ownsRow W.heap.size 3 1 (.slice a kn cap) kn (ints bl) ∧ SpAt w' ps rs us2 ∧ Fr (fun b => b = rs) W w') := hidd (fun W hW => by
    rw [hbl, hus2, hkn]; exact take_ok ps rs us _ W hW hk)
  have HND : Hid (∀ W, Calls Tryz.prog 61 #[.int .i64 (data.size : Int)] W fun e w' => e = .returned (.int .i64 (kn : Int)) ∧ W = w') := hidd (fun W => by rw [hkn]; exact need_nat _ W hds)
  have HC1 : Hid (∀ W, Fr (fun b => b = rs) w W → W.cell? ⟨t, 1, none⟩ = some (.pointer (some ⟨ps, 0, none⟩))) := hidd (fun W hW => hW.cell hc1 (fun e => h.tabN (.inr (.inr (.inl e)))))
  have hspd : SpAt w.drew ps rs us := h.sp.drew
  have HH := hidd h
  have HKN := hidd hkn
  have HBL := hidd hbl
  have HU := hidd hus2
  have HK := hidd hk
  clear h hkn hbl hus2 hk
  go_enter Tryz.func32, Tryz.ntmps32
  go_wp2_with fail
  go_region_held3 (fun W => W.cell? ⟨t, 1, none⟩ = some (.pointer (some ⟨ps, 0, none⟩)))
    (first | exact hc1 | exact HC1.out _ (((Fr.refl _ w).drew).trans hf1))
    (first | (go_at_call 61; refine (HND.out _).mono ?_; rintro e w9 ⟨rfl, rfl⟩) | (go_at_call 65; refine (HTK.out _ hspd).mono ?_; rintro e w1 ⟨la, lcap, rfl, hrow, hsp1, hf1⟩))
  go_wp2_with fail
  obtain rfl : kn = bl.length := hbln.symm
  have h0 := HH.out
  have hf1' : Fr (fun b => b = rs) w w1 := ((Fr.refl _ w).drew).trans hf1
  obtain ⟨n, hn, hm⟩ := h0.mp
  have hdk1 : DkAt w1 p r (.slice none 0 0) ls [] := h0.dk.fr hf1' (by
    rintro b (rfl | rfl | hb') e
    · exact blk_ne h0.dk.head h0.sp.row (by decide) e
    · exact blk_ne h0.dk.row h0.sp.row (by decide) e
    · simp [Value.ownBlock] at hb')
  have htab1 := h0.tab.fr hf1' (fun e => h0.tabN (.inr (.inr (.inl e))))
  have hrow1 : Ow (fun g => w.heap.size ≤ g) w1 3 1 (.slice la bl.length lcap) bl.length (ints bl) := Ow.of_owns hrow (fun g hg => hg)
  have hm1 := hm.fr hf1' (fun e => hm.ne_blk h0.sp.row e)
  have hwn := HKN.out
  have htn := h0.tabN
  have htm := hm.ne_blk h0.tab
  refine (iwrite_ok t p r (.slice la bl.length lcap) bl data ls w1 (htab1.cell rfl) hdk1 hrow1.sl ?w1 ?w2 ?w3 hds ⟨fun e => htn (.inl e), fun e => htn (.inr (.inl e))⟩).mono ?_
  case w1 => exact fun g hg => ⟨own_ne hrow1 hdk1.head (by decide) ∘ (fun e => e ▸ hg), own_ne hrow1 hdk1.row (by decide) ∘ (fun e => e ▸ hg)⟩
  case w2 =>
    intro b hb
    rw [← h0.len]
    exact getD_false_lt (tk_mem us _ _ b (HBL.out ▸ hb))
  case w3 => exact hwn
  rintro e w2 ⟨⟨u, rfl⟩, hdk2, hf2⟩
  have htab2 := htab1.fr hf2 (by rintro (e | e); exact htn (.inl e); exact htn (.inr (.inl e)))
  have hsp2 : SpAt w2 ps rs us2 := hsp1.fr hf2 (by rintro (e | e); exact blk_ne hsp1.head hdk1.head (by decide) e; exact blk_ne hsp1.head hdk1.row (by decide) e) (by rintro (e | e); exact blk_ne hsp1.row hdk1.head (by decide) e; exact blk_ne hsp1.row hdk1.row (by decide) e)
  have hrow2 : Ow (fun g => w.heap.size ≤ g) w2 3 1 (.slice la bl.length lcap) bl.length (ints bl) := hrow1.fr hf2 (by
    rintro g hg (rfl | rfl)
    · exact own_ne hrow1 hdk1.head (by decide) hg
    · exact own_ne hrow1 hdk1.row (by decide) hg)
  have hm2 := hm1.fr hf2 (by rintro (e | e); exact hm1.ne_blk hdk1.head e; exact hm1.ne_blk hdk1.row e)
  have hf02 : Fr (fun b => b = p ∨ b = r ∨ b = rs ∨ b = m) w w2 := hf1'.trans' hf2 (fun _ _ e => .inr (.inr (.inl e))) (fun _ _ e => by rcases e with e | e; exact .inl e; exact .inr (.inl e))
  have hc2 := htab2.cell (i := 2) (v := .map (some m)) rfl
  clear h0 hf1 hf1' hrow hrow1 hdk1 htab1 hm hm1 hsp1 hf2 hwn htn
  go_wp2_with fail
  go_loop [10] (fun i => ∃ j : Nat, j ≤ k0 ∧ i = .int .i64 (j : Int)) (fun i => k0 - (intOf i).toNat)
  case atStart => exact ⟨0, Nat.zero_le _, rfl⟩
  case round =>
    obtain ⟨j, hj, rfl⟩ := hrel
    have hl := hm2.look (k := (j : Int)) (by omega)
    by_cases hlt : j < k0
    · obtain ⟨y, hy⟩ := hkl j hlt
      rw [show mapOf T (j : Int) = some y.blk by simp [mapOf, hy]] at hl
      simp only [ptrV, Option.map_some] at hl
      go_wp2_with fail
      go_round
      case rel => exact ⟨j + 1, hlt, by go_num⟩
      case measure => simp [intOf]; omega
    · obtain rfl : j = k0 := by omega
      rw [show mapOf T (j : Int) = none by simp [mapOf, hk0]] at hl
      simp only [ptrV, Option.map_none] at hl
      clear hlt
      go_wp2_with fail
      have hlt2 := htab2.lt
      have hma : MapIs (w2.alloc (.cells #[.int .i64 (data.size : Int), .int .i64 1, .bool ex, .slice la bl.length lcap, .int .u32 (crc data.data.toList : Nat)] 54)).drew m n (mapOf T) :=
        hm2.ob (B := w2.heap.size) (((Below.refl _ w2).alloc (Nat.le_refl _) _).drew) (Nat.le_refl _)
      have hca : (w2.alloc (.cells #[.int .i64 (data.size : Int), .int .i64 1, .bool ex, .slice la bl.length lcap, .int .u32 (crc data.data.toList : Nat)] 54)).drew.cell? ⟨t, 2, none⟩ = some (.map (some m)) := ((htab2.alloc _).drew).cell rfl
      have hcd : w2.drew.cell? ⟨t, 2, none⟩ = some (.map (some m)) := hc2
      have HSUM : Hid (∀ W, Calls Tryz.prog 54 #[.string data] W fun e w' => e = .returned (.int .u32 (crc data.data.toList : Nat)) ∧ W = w') := hidd (fun W => sum_any data W (by unfold maxLen; omega))
      obtain ⟨w4, hrun, hm4, hf4⟩ := hma.store (by omega) (j : Int) w2.heap.size (by omega)
      have hw24 : Fr (fun b => b = m) w2 w4 := (((Fr.refl (fun b => b = m) w2).alloc (.cells #[.int .i64 (data.size : Int), .int .i64 1, .bool ex, .slice la bl.length lcap, .int .u32 (crc data.data.toList : Nat)] 54)).drew).trans hf4
      have hf04 : Fr (fun b => b = p ∨ b = r ∨ b = rs ∨ b = m) w w4 := hf02.trans' hw24 (fun _ _ e => e) (fun _ _ e => .inr (.inr (.inr e)))
      have hblk4 : Blk w4 w2.heap.size (inoCells ⟨data, ex, 1, bl, w2.heap.size, .slice la bl.length lcap⟩) 54 :=
        ((Blk.new w2 (inoCells ⟨data, ex, 1, bl, w2.heap.size, .slice la bl.length lcap⟩) 54).drew).fr hf4 (by have := hm2.lt; omega)
      have HP : Hid (MkPostB pc B t p r ps rs m N T us ls data ex w (.returned (.tuple #[.int .i64 (j : Int), .nilIface])) w4) := hidd (by
        refine ⟨j, ⟨data, ex, 1, bl, w2.heap.size, .slice la bl.length lcap⟩, rfl, hkN, hk0, hkl, rfl, rfl, rfl, HBL.out, ?_, hf04, fun g hg => (hrow2.blk g hg).1, hf02.size⟩
        refine HH.out.add (x := ⟨data, ex, 1, bl, w2.heap.size, .slice la bl.length lcap⟩) hk0 hkN hds HK.out HBL.out rfl hf04 (hdk2.fr hw24 ?_) ?_ ⟨n + 1, by omega, by rw [mapOf_upd]; exact hm4⟩ ⟨hblk4, (hrow2.fr hw24 ?_).mono (fun _ _ => trivial)⟩ hf02.size hB
        · rintro b (rfl | rfl | hb') e
          · exact hm2.ne_blk hdk2.head e.symm
          · exact hm2.ne_blk hdk2.row e.symm
          · simp [Value.ownBlock] at hb'
        · show SpAt w4 ps rs (tk us (needN data.size) us.length).2
          rw [← show us2 = (tk us (needN data.size) us.length).2 from HU.out]
          exact hsp2.fr hw24 (fun e => hm2.ne_blk hsp2.head e.symm) (fun e => hm2.ne_blk hsp2.row e.symm)
        · rintro g hg rfl
          exact own_ne_map hrow2 hm2 hg)
      clear hma hblk4 hf04 hw24 hm4 hf4 hrow2 hsp2 hdk2 hf02 htab2
      go_region_with (first
        | (go_at_call 54; refine (HSUM.out _).mono ?_; rintro e w9 ⟨rfl, rfl⟩))
      all_goals
        go_wp2_with fail
        go_ret2
        exact HP
theorem make_ok {pc : Prop} (B t p r ps rs m N : Nat) (T : Nat → Option Ino) (us : List Bool) (ls : List ByteArray) (data : ByteArray) (ex : Bool) (w : World) (h : TbAt pc w B t p r ps rs m N T us ls) (hN : N ≤ 1000000) (hB : B ≤ w.heap.size) (hds : data.size ≤ 2000) (hk : needN data.size ≤ nfree us) :
    Calls Tryz.prog 32 #[.pointer (some ⟨t, 0, none⟩), .string data, .bool ex] w (MkPost pc B t p r ps rs m N T us ls data ex w) :=
  (make_okb B t p r ps rs m N T us ls data ex w h hN hB hds hk).mono fun _ _ ⟨k0, x, h1, h2, h3, h4, h5, h6, h7, h8, h9, h10, h11, _⟩ => ⟨k0, x, h1, h2, h3, h4, h5, h6, h7, h8, h9, h10, h11⟩
end Go.Proofs.YtoemahhpheobkaaGreatDoor

namespace Go.Proofs.YtoemahhpheobkaaGreatDoor
open Go.RowKit

theorem make_big (t : Value) (data : ByteArray) (ex : Bool) (w : World) (E : Nat → Addr) (hd : 2000 < data.size) (hE : w.cell? ⟨4, 0, none⟩ = some (erv E 4)) :
    Calls Tryz.prog 32 #[t, .string data, .bool ex] w fun e w' => e = .returned (.tuple #[.int .i64 0, erv E 4]) ∧ Below w.heap.size w w' := by
  have hd1 : (2000 : Int) < (data.size : Int) := by omega
  unfold erv at *
  have hE2 : w.drew.cell? ⟨4, 0, none⟩ = some (.iface 249 (.pointer (some (E 4)))) := hE
  go_enter Tryz.func32, Tryz.ntmps32
  go_wp2_with fail
  go_quiet (fail)
  go_wp2_with fail
  go_ret2
  exact ⟨rfl, Below.drewN _ _ _⟩

set_option maxHeartbeats 1000000 in
theorem make_full {pc : Prop} (B t p r ps rs m N : Nat) (T : Nat → Option Ino) (us : List Bool) (ls : List ByteArray) (data : ByteArray) (ex : Bool) (w : World) (h : TbAt pc w B t p r ps rs m N T us ls) (hds : data.size ≤ 2000) (hk : ¬ needN data.size ≤ nfree us) (E : Nat → Addr) (G : List Nat) (B0 : Nat) (hE : Env G B0 w E) (hg : 0 ∈ G) :
    Calls Tryz.prog 32 #[.pointer (some ⟨t, 0, none⟩), .string data, .bool ex] w fun e w' => e = .returned (.tuple #[.int .i64 0, erv E 0]) ∧ Below w.heap.size w w' := by
  have hd1 : ¬ (2000 : Int) < (data.size : Int) := by omega
  have hc1 := h.c1
  obtain ⟨kn, hkn⟩ : ∃ kn, kn = needN data.size := ⟨_, rfl⟩
  have HTK : Hid (Calls Tryz.prog 65 #[.pointer (some ⟨ps, 0, none⟩), .int .i64 (kn : Int)] w.drew fun e w' => e = .returned (.tuple #[.slice none 0 0, erv E 0]) ∧ Below w.drew.heap.size w.drew w') := hidd (by
    rw [hkn]; exact take_full E ps rs us _ w.drew h.sp.drew (by omega) (by omega) B0 G (hE.ob ((Below.refl _ w).drew)) hg)
  have HND : Hid (∀ W, Calls Tryz.prog 61 #[.int .i64 (data.size : Int)] W fun e w' => e = .returned (.int .i64 (kn : Int)) ∧ W = w') := hidd (fun W => by rw [hkn]; exact need_nat _ W hds)
  have HC1 : Hid (∀ W, Below w.heap.size w.drew W → W.cell? ⟨t, 1, none⟩ = some (.pointer (some ⟨ps, 0, none⟩))) := hidd (fun W hW => (h.ob ((Below.refl _ w).drew.trans hW)).c1)
  unfold erv at *
  clear h hkn hk hE
  go_enter Tryz.func32, Tryz.ntmps32
  go_wp2_with fail
  go_region_held3 (fun W => W.cell? ⟨t, 1, none⟩ = some (.pointer (some ⟨ps, 0, none⟩)))
    (first | exact hc1 | exact HC1.out _ hf1)
    (first | (go_at_call 61; refine (HND.out _).mono ?_; rintro e w9 ⟨rfl, rfl⟩) | (go_at_call 65; refine HTK.out.mono ?_; rintro e w1 ⟨rfl, hf1⟩))
  go_wp2_with fail
  go_ret2
  exact ⟨rfl, (Below.refl _ w).drew.trans hf1⟩

/-- A new table. -/
def TnPost (pc : Prop) (n : Nat) (w : World) (e : Ending) (w' : World) : Prop := ∃ t p r ps rs m v, e = .returned (.tuple #[.pointer (some ⟨t, 0, none⟩), v, .bool true]) ∧
  TbAt pc w' w.heap.size t p r ps rs m 0 (fun _ => none) (List.replicate n false) (List.replicate n (zb 16)) ∧ Below w.heap.size w w'
theorem tb_start {pc : Prop} {n p r t ps rs m B : Nat} {w : World} (hdk : DkAt w p r (.slice none 0 0) (List.replicate n (zb 16)) []) (hb : Blk w t [.pointer (some ⟨p, 0, none⟩), .pointer (some ⟨ps, 0, none⟩), .map (some m)] 106) (hs : SpAt w ps rs (List.replicate n false)) (hm : w.heap[m]? = some (.map #[] 0))
    (hB : B ≤ p ∧ B ≤ r ∧ B ≤ ps ∧ B ≤ rs ∧ B ≤ m ∧ B ≤ t) : TbAt pc w B t p r ps rs m 0 (fun _ => none) (List.replicate n false) (List.replicate n (zb 16)) where
  tab := hb
  dk := hdk
  sp := hs
  mp := ⟨0, Nat.le_refl _, by
    have := MapIs.of_heap hm
    have e : mapOf (fun _ => none) = fun _ => none := by funext i; simp [mapOf]
    rw [e]; exact this⟩
  ino := fun _ _ h => by cases h
  ok := fun _ _ h => by cases h
  inj := fun _ _ _ _ h => by cases h
  dis := fun _ _ _ _ h => by cases h
  usd := fun b => by
    constructor
    · intro h
      rw [List.getD_eq_getElem?_getD] at h
      by_cases hb : b < n
      · rw [List.getElem?_eq_getElem (by simpa using hb)] at h; simp at h
      · rw [List.getElem?_eq_none (by simp; omega)] at h; cases h
    · rintro ⟨k, x, h, -⟩; cases h
  len := by simp
  fin := ⟨0, Nat.le_refl _, fun _ _ => rfl⟩
  base := hB
  bases := fun _ _ h => by cases h

set_option maxRecDepth 100000 in
set_option maxHeartbeats 1000000 in
theorem tableOf_ok {pc : Prop} (n : Nat) (w : World) (h1 : 1 ≤ n) (h2 : n ≤ 512) : Calls Tryz.prog 26 #[.int .i64 (n : Int)] w (TnPost pc n w) := by
  go_enter Tryz.func26, Tryz.ntmps26
  go_wp2_with fail
  refine (rnew_any n _ h2).mono ?_
  rintro e w1 ⟨⟨q, rfl⟩, hb1⟩
  go_wp2_with fail
  refine (dnew_ok n _ h1 h2).mono ?_
  rintro e w2 ⟨p, r, rfl, hdk, g1, g2, hb2⟩
  have hB2 : Below w.heap.size w w2 := (hb1.alloc hb1.size (.cells #[.pointer (some ⟨q, 0, none⟩), .slice none 0 0] 124)).trans (hb2.mono (by have := hb1.size; simp; omega))
  have HB2 := hidd hB2
  have HG : Hid (w.heap.size ≤ p ∧ w.heap.size ≤ r) := hidd (by have := hb1.size; simp at g1 g2; omega)
  have hlen : (List.replicate n (zb 16)).length = n := by simp
  have hin := inew_ok p r _ (List.replicate n (zb 16)) [] w2 hdk (by rw [hlen]; exact h1) (by rw [hlen]; exact h2)
  rw [hlen] at hin
  clear hb1 hb2 hB2 g1 g2
  go_wp2_with fail
  refine hin.mono ?_
  rintro e w3 ⟨t, ps, rs, m, rfl, hb, hs, hm, e1, e2, e3, e4, -, -, -, -, -, hb3⟩
  have hsz := HB2.out.size
  have HP : Hid (TnPost pc n w (.returned (.tuple #[.pointer (some ⟨t, 0, none⟩), .pointer (some ⟨w1.heap.size, 0, none⟩), .bool true])) w3) := hidd
    ⟨t, p, r, ps, rs, m, _, rfl, tb_start (hdk.ob hb3 (Nat.le_refl _)) hb hs hm (by have := HG.out; omega), HB2.out.trans (hb3.mono hsz)⟩
  clear hin hdk hb hs hm hb3
  go_wp2_with fail
  refine bodyPost_ret (results_tmp3 rfl _ _ _) rfl ?_
  exact HP

end Go.Proofs.YtoemahhpheobkaaGreatDoor
