/- inode.Table: Disk, Write, All, where blocks may have rotted. Condition: the table is one that New gave. -/
import Derived.Test.YtcpilhembdphoaaGreatDoorSc0
import Derived.Test.YtcpilhembdphoaaGreatDoorIn8
import Derived.Test.YtcpilhembdphoaaGreatDoorDk3
import Derived.Test.YtcpilhembdphoaaGreatDoorIter
import Derived.Lib.SlKeysI
namespace Go.Proofs.YtcpilhembdphoaaGreatDoor
open Go.RowKit

/-- The same table where the disk's texts are others. -/
theorem TbAt.disk {pc : Prop} {w w' : World} {B t p r ps rs m N : Nat} {T : Nat → Option Ino} {us : List Bool} {ls ls' : List ByteArray} (h : TbAt pc w B t p r ps rs m N T us ls) (hf : Fr (fun b => b = p ∨ b = r) w w') (hd : DkAt w' p r (.slice none 0 0) ls' []) (hl : ls'.length = ls.length) :
    TbAt False w' B t p r ps rs m N T us ls' where
  tab := h.tab.fr hf (by rintro (e | e); exact h.tabN (.inl e); exact h.tabN (.inr (.inl e)))
  dk := hd
  sp := h.sp.fr hf (by rintro (e | e); exact blk_ne h.sp.head h.dk.head (by decide) e; exact blk_ne h.sp.head h.dk.row (by decide) e) (by rintro (e | e); exact blk_ne h.sp.row h.dk.head (by decide) e; exact blk_ne h.sp.row h.dk.row (by decide) e)
  mp := by
    obtain ⟨n, hn, hm⟩ := h.mp
    exact ⟨n, hn, hm.fr hf (by rintro (e | e); exact hm.ne_blk h.dk.head e; exact hm.ne_blk h.dk.row e)⟩
  ino := fun k x hx => (h.ino k x hx).fr hf (by rintro (e | e); exact blk_ne (h.ino k x hx).blk h.dk.head (by decide) e; exact blk_ne (h.ino k x hx).blk h.dk.row (by decide) e)
    (fun g hg => by rintro (e | e); exact own_ne (h.ino k x hx).row h.dk.head (by decide) (e ▸ hg); exact own_ne (h.ino k x hx).row h.dk.row (by decide) (e ▸ hg))
  ok := fun k x hx => { h.ok k x hx with inr := fun b hb => by rw [hl]; exact (h.ok k x hx).inr b hb, pcs := fun f => f.elim }
  inj := h.inj
  dis := h.dis
  usd := h.usd
  len := by rw [hl]; exact h.len
  fin := h.fin
  base := h.base
  bases := h.bases
theorem TbAt.weak {pc : Prop} {w : World} {B t p r ps rs m N : Nat} {T : Nat → Option Ino} {us : List Bool} {ls : List ByteArray} (h : TbAt pc w B t p r ps rs m N T us ls) : TbAt False w B t p r ps rs m N T us ls := h.disk (Fr.refl _ _) h.dk rfl

theorem tdisk_any (t p : Nat) (w : World) (hc : w.cell? ⟨t, 0, none⟩ = some (.pointer (some ⟨p, 0, none⟩))) :
    Calls Tryz.prog 9 #[.pointer (some ⟨t, 0, none⟩)] w fun e w' => e = .returned (.pointer (some ⟨p, 0, none⟩)) ∧ w = w' := by
  go_enter Tryz.func9, Tryz.ntmps9
  go_wp2_with fail
  go_ret
  exact ⟨rfl, rfl⟩

/-- What Write does. -/
def TwPost (B t p r ps rs m N : Nat) (T : Nat → Option Ino) (us : List Bool) (ls : List ByteArray) (x : Ino) (data : ByteArray) (w : World) (e : Ending) (w' : World) : Prop :=
  e = .returned .nilIface ∧ TbAt False w' B t p r ps rs m N T us (lsN ls x.bl data x.bl.length) ∧ Fr (fun b => b = p ∨ b = r) w w'
set_option maxRecDepth 100000 in
set_option maxHeartbeats 4000000 in
theorem twrite_ok {pc : Prop} (B t p r ps rs m N : Nat) (T : Nat → Option Ino) (us : List Bool) (ls : List ByteArray) (k : Nat) (x : Ino) (data : ByteArray) (w : World) (h : TbAt pc w B t p r ps rs m N T us ls) (hk : k ≤ 1000000) (hx : T k = some x) (hd : data.size = x.data.size) :
    Calls Tryz.prog 36 #[.pointer (some ⟨t, 0, none⟩), .int .i64 (k : Int), .string data] w (TwPost B t p r ps rs m N T us ls x data w) := by
  obtain ⟨n, hn, hm⟩ := h.mp
  have hc2 := h.c2
  have hl := hm.look_ok (k := (k : Int)) (by omega)
  rw [show mapOf T (k : Int) = some x.blk by simp [mapOf, hx]] at hl
  simp only [ptrV, Option.map_some, Option.isSome_some] at hl
  have hxa := h.ino k x hx
  have hxo := h.ok k x hx
  have x3 : w.cell? ⟨x.blk, 3, none⟩ = some x.bv := hxa.blk.cell rfl
  have HW := hidd (iwrite_ok t p r x.bv x.bl data ls w h.c0 h.dk hxa.row.sl (fun g hg => ⟨own_ne hxa.row h.dk.head (by decide) ∘ (fun e => e ▸ hg), own_ne hxa.row h.dk.row (by decide) ∘ (fun e => e ▸ hg)⟩) hxo.inr (by rw [hd]; exact hxo.len) (by rw [hd]; exact hxo.size) ⟨fun e => h.tabN (.inl e), fun e => h.tabN (.inr (.inl e))⟩)
  have HH := hidd h
  clear h hm hxa hxo hn
  go_enter Tryz.func36, Tryz.ntmps36
  go_wp2_with fail
  refine HW.out.mono ?_
  rintro e w1 ⟨⟨u, rfl⟩, hdk, hf⟩
  have HP := hidd (show TwPost B t p r ps rs m N T us ls x data w (.returned .nilIface) w1 from ⟨rfl, HH.out.disk hf hdk (lsN_len _ _ _ _), hf⟩)
  clear hdk hf HW HH hl
  go_wp2_with fail
  go_ret
  exact HP.out

/-- The keys of a map from ints, in any order: each once, those that are there. -/
theorem MapIs.keys {w : World} {m n : Nat} {f : Int → Option Nat} (h : MapIs w m n f) : ∃ D : DataW Unit, w.ownsMap Tryz.prog 3 ptrElem m n D ∧ (intKeys D).Nodup ∧ (∀ x ∈ intKeys D, -9223372036854775808 ≤ x ∧ x ≤ 9223372036854775807) ∧ (∀ x, -9223372036854775808 ≤ x ∧ x ≤ 9223372036854775807 → (x ∈ intKeys D ↔ (f x).isSome = true)) ∧ Maps.size D ≤ n ∧ (intKeys D).length ≤ n := by
  obtain ⟨D, hD, hf⟩ := h
  have hwf := intKeys_wf hD Tryz.underlying3
  obtain ⟨es, hD1, hpw, _⟩ := hD.entries (Maps.int_keyed Tryz.underlying3)
  obtain ⟨es', hD2, hk⟩ := hD.keysOf
  obtain rfl : es = es' := by rw [hD1] at hD2; simpa using hD2
  have hks : ∀ p ∈ es, ∃ x, p.1 = .int .i64 x := fun p hp => by obtain ⟨v, hv⟩ := hk p hp; obtain ⟨x, _, hx, _⟩ := Maps.keyOf_i64 Tryz.underlying3 hv; exact ⟨x, hx⟩
  refine ⟨D, hD, ?_, fun x hx => ?_, fun x hx => ?_, hD.size_le, ?_⟩
  · subst hD1
    show (List.map (fun p : Lit × DataW Unit => Go.intOf p.1) es).Nodup
    refine List.pairwise_map.2 (hpw.imp_of_mem fun {p q} hp' hq' hne e => hne ?_)
    obtain ⟨a, ha⟩ := hks p hp'
    obtain ⟨b, hb⟩ := hks q hq'
    rw [ha, hb] at e ⊢
    exact congrArg _ e
  · have := hwf x hx
    simp [Lit.wf, IntKind.min, IntKind.max, IntKind.signed, IntKind.bits] at this
    omega
  · rw [← has_eq_of (hf x hx)]
    subst hD1
    rw [Maps.has_eq, List.any_eq_true]
    show x ∈ es.map (fun p => Go.intOf p.1) ↔ _
    rw [List.mem_map]
    constructor
    · rintro ⟨p, hp, rfl⟩
      obtain ⟨a, ha⟩ := hks p hp
      exact ⟨p, hp, by rw [ha]; simp [Lit.sameKey, Go.intOf]⟩
    · rintro ⟨p, hp, he⟩
      obtain ⟨a, ha⟩ := hks p hp
      rw [ha] at he
      exact ⟨p, hp, by rw [ha]; simpa [Lit.sameKey, Go.intOf] using he⟩
  · have hs := hD.size_le
    subst hD1
    simpa [intKeys, Maps.size] using hs

/-- The numbers of a table's inodes, ascending. -/
def KeysOf (T : Nat → Option Ino) (kl : List Nat) : Prop := kl.Pairwise (· < ·) ∧ ∀ k, k ∈ kl ↔ (T k).isSome = true
theorem KeysOf.one {T : Nat → Option Ino} {a b : List Nat} (h : KeysOf T a) (k : KeysOf T b) : a = b := by
  have hm : ∀ x, x ∈ a ↔ x ∈ b := fun x => by rw [h.2, k.2]
  have ha : a.Nodup := h.1.imp fun q => Nat.ne_of_lt q
  have hb : b.Nodup := k.1.imp fun q => Nat.ne_of_lt q
  exact List.Perm.eq_of_pairwise (le := fun x y : Nat => x < y) (fun x y _ _ h1 h2 => absurd h1 (by omega)) h.1 k.1 ((List.perm_ext_iff_of_nodup ha hb).2 hm)
/-- What All gives. -/
def AlP (T : Nat → Option Ino) (w : World) (e : Ending) (w' : World) : Prop := ∃ (kl : List Nat) (a : Option Addr) (cap : Nat), KeysOf T kl ∧ kl.length ≤ 1000000 ∧ e = .returned (.slice a kl.length cap) ∧ Sl w' (.slice a kl.length cap) (ints kl) kl.length 1 ∧ Below w.heap.size w w'
theorem keysi_call (m : Nat) (W : World) : Calls Tryz.prog 55 #[.map (some m)] W fun e w' => e = .returned (.func (.func 74) #[] #[.pointer (some ⟨W.heap.size, 0, none⟩)]) ∧ w' = W.alloc (.cells #[.map (some m)] 66) :=
  callsIn_wide.1 (Tryz.maps_Keys_55 (some m) W)
theorem sortedi_call (m n : Nat) (f : Int → Option Nat) (w : World) (h : MapIs w m n f) (hn : n ≤ 1000000) :
    Calls Tryz.prog 54 #[.func (.func 74) #[] #[.pointer (some ⟨w.heap.size, 0, none⟩)]] (w.alloc (.cells #[.map (some m)] 66)) fun e w' => ∃ (v : Value) (zs : List Int), e = .returned v ∧ zs.Pairwise (· < ·) ∧
      (∀ x ∈ zs, -9223372036854775808 ≤ x ∧ x ≤ 9223372036854775807) ∧ (∀ x, -9223372036854775808 ≤ x ∧ x ≤ 9223372036854775807 → (x ∈ zs ↔ (f x).isSome = true)) ∧ zs.length ≤ n ∧ Sl w' v (icells zs) zs.length 1 ∧ Below w.heap.size w w' := by
  obtain ⟨D, hD, hnd, hrg, hks, hsz, hlen⟩ := h.keys
  refine (callsIn_wide.1 (Tryz.slices_Sorted_keys_54_55 m n D _ w hD (by unfold maxLen; omega) (by omega))).mono ?_
  rintro e w' ⟨v, ss, rfl, hp, hrow, hnil, hb⟩
  have tr : ∀ a b c : Int, decide (a ≤ b) = true → decide (b ≤ c) = true → decide (a ≤ c) = true := fun a b c h1 h2 => by simp only [decide_eq_true_eq] at *; omega
  have tot : ∀ a b : Int, (decide (a ≤ b) || decide (b ≤ a)) = true := fun a b => by simp only [Bool.or_eq_true, decide_eq_true_eq]; omega
  have hpm := List.mergeSort_perm ss (fun x y => decide (x ≤ y))
  have hnd2 : (ss.mergeSort (fun x y => decide (x ≤ y))).Nodup := hpm.nodup_iff.2 (hp.nodup_iff.2 hnd)
  have hpw := List.pairwise_mergeSort (le := fun x y : Int => decide (x ≤ y)) tr tot ss
  refine ⟨v, ss.mergeSort (fun x y => decide (x ≤ y)), rfl, ?_, fun x hx => hrg x (hp.mem_iff.1 (hpm.mem_iff.1 hx)), fun x hx => ?_, by rw [List.length_mergeSort, hp.length_eq]; exact hlen, ?_, ((Below.refl _ _).alloc (Nat.le_refl _) _).trans (hb.mono (by simp))⟩
  · refine (hpw.and hnd2).imp ?_
    rintro a b ⟨h1, h2⟩
    simp only [decide_eq_true_eq] at h1
    omega
  · rw [hpm.mem_iff, hp.mem_iff, hks x hx]
  · have := Sl.of_owns hrow
    rw [List.length_mergeSort]
    exact this
set_option maxRecDepth 100000 in
set_option maxHeartbeats 4000000 in
theorem all_any {pc : Prop} (B t p r ps rs m N : Nat) (T : Nat → Option Ino) (us : List Bool) (ls : List ByteArray) (w : World) (h : TbAt pc w B t p r ps rs m N T us ls) (hN : N ≤ 1000000) :
    Calls Tryz.prog 31 #[.pointer (some ⟨t, 0, none⟩)] w (AlP T w) := by
  obtain ⟨n, hn, hm⟩ := h.mp
  have hc2 := h.c2
  obtain ⟨K, hK, hfin⟩ := h.fin
  have HSO := hidd (sortedi_call m n (mapOf T) w hm (by omega))
  have HF := hidd hfin
  clear h hm hfin
  go_enter Tryz.func31, Tryz.ntmps31
  go_wp2_with fail
  refine (keysi_call m _).mono ?_
  rintro e w1 ⟨rfl, rfl⟩
  go_wp2_with fail
  refine HSO.out.mono ?_
  rintro e w2 ⟨v, zs, rfl, hpw, hrg, hmem, hzl, hsl, hb⟩
  have hnn : ∀ x ∈ zs, 0 ≤ x := fun x hx => by
    have h1 := (hmem x (hrg x hx)).1 hx
    by_cases h0 : 0 ≤ x
    · exact h0
    · simp [mapOf, h0] at h1
  have hzs : zs = (zs.map Int.toNat).map fun (j : Nat) => (j : Int) := by
    rw [List.map_map]
    refine Eq.trans (List.map_id zs).symm (List.map_congr_left (fun x hx => ?_))
    have := hnn x hx
    simp only [Function.comp_apply, id_eq]
    omega
  have hP : AlP T w (.returned v) w2 := by
    obtain ⟨a, cap, hv, -⟩ := id hsl
    refine ⟨zs.map Int.toNat, a, cap, ⟨?_, fun k => ?_⟩, by rw [List.length_map]; omega, by rw [List.length_map, hv], ?_, hb⟩
    · refine List.pairwise_map.2 (hpw.imp_of_mem fun {x y} hx hy hxy => ?_)
      have := hnn x hx
      omega
    · rw [List.mem_map]
      constructor
      · rintro ⟨x, hx, rfl⟩
        have h1 := (hmem x (hrg x hx)).1 hx
        simpa [mapOf, hnn x hx] using h1
      · intro hk
        have hkK : k < K := by
          by_cases hlt : k < K
          · exact hlt
          · rw [HF.out k (by omega)] at hk; cases hk
        refine ⟨(k : Int), (hmem _ (by omega)).2 ?_, by simp⟩
        simpa [mapOf] using hk
    · rw [List.length_map, ← hv, ints_icells, ← hzs]
      exact hsl
  have HP := hidd hP
  clear hP hsl hb hmem hrg hpw hzs HSO HF hnn
  go_wp2_with fail
  go_ret
  exact HP.out
end Go.Proofs.YtcpilhembdphoaaGreatDoor
