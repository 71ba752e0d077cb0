/- Unlink. Condition: the table is one that New gave. -/
import Derived.Test.YtcpilhembdphoaaGreatDoorIn3
import Derived.Test.YtcpilhembdphoaaGreatDoorSp5
namespace Go.Proofs.YtcpilhembdphoaaGreatDoor
open Go.RowKit

section
variable {pc : Prop} {w w' : World} {B t p r ps rs m N : Nat} {T : Nat → Option Ino} {us : List Bool} {ls : List ByteArray}
theorem TbAt.drop {pc : Prop} (h : TbAt pc w B t p r ps rs m N T us ls) {k : Nat} {x : Ino} (hx : T k = some x) (hf : Fr (fun b => b = x.blk ∨ b = rs ∨ b = m) w w') (hsp : SpAt w' ps rs (giv us x.bl)) (hmp : ∃ n, n ≤ N ∧ MapIs w' m n (mapOf (upd T k none))) :
    TbAt pc w' B t p r ps rs m N (upd T k none) (giv us x.bl) ls := by
  have hxa := h.ino k x hx
  obtain ⟨n, hn, hm⟩ := h.mp
  have key : ∀ i y, upd T k none i = some y → T i = some y ∧ i ≠ k := by
    intro i y hy
    by_cases e : i = k
    · subst e; rw [upd_same] at hy; cases hy
    · rw [upd_other _ _ _ e] at hy; exact ⟨hy, e⟩
  have hne : ∀ {b : Nat} {cs : List Value} {S : TypeId}, Blk w b cs S → S ≠ 34 → S ≠ 4 → ¬ (b = x.blk ∨ b = rs ∨ b = m) := by
    rintro b cs S hb h1 h2 (e | e | e)
    · exact blk_ne hb hxa.blk h1 e
    · exact blk_ne hb h.sp.row h2 e
    · exact hm.ne_blk hb e.symm
  have hlt : ∀ b ∈ x.bl, b < us.length := by rw [h.len]; exact (h.ok k x hx).inr
  refine { h with
    tab := h.tab.fr hf (hne h.tab (by decide) (by decide))
    dk := h.dk.fr hf (by
      rintro b (rfl | rfl | hb')
      · exact hne h.dk.head (by decide) (by decide)
      · exact hne h.dk.row (by decide) (by decide)
      · simp [Value.ownBlock] at hb')
    sp := hsp
    mp := hmp
    ino := fun i y hy => ?_
    ok := fun i y hy => h.ok i y (key i y hy).1
    inj := fun i j y z hy hz hij => h.inj i j y z (key i y hy).1 (key j z hz).1 hij
    dis := fun i j y z hy hz hij => h.dis i j y z (key i y hy).1 (key j z hz).1 hij
    usd := fun b => ?_
    len := by rw [giv_len]; exact h.len
    fin := ?_
    bases := fun i y hy => h.bases i y (key i y hy).1 }
  · obtain ⟨hy, e⟩ := key i y hy
    have hy' := h.ino i y hy
    refine hy'.fr hf ?_ ?_
    · rintro (e' | e' | e')
      · exact h.inj i k y x hy hx e e'
      · exact blk_ne hy'.blk h.sp.row (by decide) e'
      · exact hm.ne_blk hy'.blk e'.symm
    · rintro g hg (rfl | rfl | rfl)
      · exact own_ne hy'.row hxa.blk (by decide) hg
      · exact own_ne hy'.row h.sp.row (by decide) hg
      · exact own_ne_map hy'.row hm hg
  · rw [giv_used _ _ hlt, h.usd b]
    constructor
    · rintro ⟨⟨i, y, hy, hb⟩, hn⟩
      refine ⟨i, y, ?_, hb⟩
      rw [upd_other _ _ _ (by rintro rfl; rw [hx] at hy; cases hy; exact hn hb)]
      exact hy
    · rintro ⟨i, y, hy, hb⟩
      obtain ⟨hy, e⟩ := key i y hy
      exact ⟨⟨i, y, hy, hb⟩, fun hbx => h.dis i k y x hy hx e b hb hbx⟩
  · obtain ⟨K, hK, hf⟩ := h.fin
    refine ⟨K, hK, fun i hi => ?_⟩
    by_cases e : i = k
    · subst e; rw [upd_same]
    · rw [upd_other _ _ _ e]; exact hf i hi
end

set_option maxHeartbeats 2000000 in
theorem unlink_more {pc : Prop} (B t p r ps rs m N : Nat) (T : Nat → Option Ino) (us : List Bool) (ls : List ByteArray) (k : Nat) (x : Ino) (w : World) (h : TbAt pc w B t p r ps rs m N T us ls) (hN : N ≤ 1000000) (hk : k ≤ 1000000) (hx : T k = some x) (l : Nat) (hl2 : x.links = l + 1) (hl1 : 1 ≤ l) :
    Calls Tryz.prog 41 #[.pointer (some ⟨t, 0, none⟩), .int .i64 (k : Int)] w (LkPost pc B t p r ps rs m N T us ls k x l w) := by
  obtain ⟨n, hn, hm⟩ := h.mp
  have hc2 := h.c2
  have hl := hm.look_ok (k := (k : Int)) (by omega)
  rw [show mapOf T (k : Int) = some x.blk by simp [mapOf, hx]] at hl
  simp only [ptrV, Option.map_some, Option.isSome_some] at hl
  have hxa := h.ino k x hx
  have hxb := hxa.blk
  have hb1 := hxb.cell (i := 1) (v := .int .i64 (x.links : Int)) rfl
  have hf1 := hxb.frozen 1
  have hbig := (h.ok k x hx).big
  have hwr : IntKind.i64.wrap ((x.links : Int) - 1) = ((l : Nat) : Int) := by rw [i64_in _ (by omega)]; omega
  have hz : ((l : Int) == 0) = false := by simp; omega
  have hz2 : ¬ l = 0 := by omega
  have hrl := h.relink hx l (by omega) (by omega) (w' := w.setCell ⟨x.blk, 1, none⟩ (.int .i64 ((l : Nat) : Int))) ((Fr.refl (fun b => b = x.blk) w).setCell (p := ⟨x.blk, 1, none⟩) (.inl rfl) _) (hxb.set 1 (.int .i64 ((l : Nat) : Int)))
  have hfr : Fr (tbS p r rs m T) w (w.setCell ⟨x.blk, 1, none⟩ (.int .i64 ((l : Nat) : Int))) := (Fr.refl (tbS p r rs m T) w).setCell (p := ⟨x.blk, 1, none⟩) (.inl (.inr (.inr (.inr (.inr ⟨k, x, hx, rfl⟩))))) _
  have HP : Hid (LkPost pc B t p r ps rs m N T us ls k x l w (.returned .nilIface) (w.setCell ⟨x.blk, 1, none⟩ (.int .i64 ((l : Nat) : Int)))) := hidd ⟨rfl, hrl, hfr⟩
  have hd1 : (w.setCell ⟨x.blk, 1, none⟩ (.int .i64 (l : Int))).cell? ⟨x.blk, 1, none⟩ = some (.int .i64 (l : Int)) := (hxb.set 1 (.int .i64 ((l : Nat) : Int))).cell rfl
  clear hrl hfr hxa hxb h hm hn
  generalize x.blk = bx at *
  generalize x.links = lk at *
  clear hl2
  go_enter Tryz.func41, Tryz.ntmps41
  go_wp2_with fail
  go_ret
  exact HP

/-- The last link less. -/
def UlPost (pc : Prop) (B t p r ps rs m N : Nat) (T : Nat → Option Ino) (us : List Bool) (ls : List ByteArray) (k : Nat) (x : Ino) (w : World) (e : Ending) (w' : World) : Prop :=
  e = .returned .nilIface ∧ TbAt pc w' B t p r ps rs m N (upd T k none) (giv us x.bl) ls ∧ Fr (tbS p r rs m T) w w'

theorem ints_icells (l : List Nat) : ints l = icells (l.map fun (j : Nat) => (j : Int)) := by simp [ints, icells]
theorem nat_back (l : List Nat) : (l.map fun (j : Nat) => (j : Int)).map Int.toNat = l := by
  induction l with
  | nil => rfl
  | cons a l ih => simp only [List.map_cons, ih]; simp
theorem gOk_of {us : List Bool} {l : List Nat} (hn : l.Nodup) (hu : ∀ b ∈ l, us.getD b false = true) : gOk us (l.map fun (j : Nat) => (j : Int)) (l.map fun (j : Nat) => (j : Int)).length := by
  intro i hi
  rw [List.length_map] at hi
  have hg : (l.map fun (j : Nat) => (j : Int)).getD i 0 = ((l[i] : Nat) : Int) := by rw [List.getD_eq_getElem?_getD, List.getElem?_eq_getElem (by simpa using hi)]; simp
  rw [hg]
  refine ⟨hu _ (List.getElem_mem _), fun hm => ?_⟩
  rw [← List.map_take] at hm
  obtain ⟨y, hy, e⟩ := List.mem_map.1 hm
  have : y = l[i] := Int.ofNat.inj e
  subst this
  obtain ⟨j, hj, e⟩ := List.getElem_of_mem hy
  rw [List.length_take] at hj
  rw [List.getElem_take] at e
  exact (List.pairwise_iff_getElem.1 hn) j i (by omega) hi (by omega) e

set_option maxRecDepth 100000 in
set_option maxHeartbeats 2000000 in
theorem unlink_last {pc : Prop} (B t p r ps rs m N : Nat) (T : Nat → Option Ino) (us : List Bool) (ls : List ByteArray) (k : Nat) (x : Ino) (w : World) (h : TbAt pc w B t p r ps rs m N T us ls) (hk : k ≤ 1000000) (hx : T k = some x) (hl1 : x.links = 1) :
    Calls Tryz.prog 41 #[.pointer (some ⟨t, 0, none⟩), .int .i64 (k : Int)] w (UlPost pc B t p r ps rs m N T us ls k x w) := by
  obtain ⟨n, hn, hm⟩ := h.mp
  have hc2 := h.c2
  have hl := hm.look_ok (k := (k : Int)) (by omega)
  rw [show mapOf T (k : Int) = some x.blk by simp [mapOf, hx]] at hl
  simp only [ptrV, Option.map_some, Option.isSome_some] at hl
  have hxa := h.ino k x hx
  have hxo := h.ok k x hx
  have hxb := hxa.blk
  have hb1 := hxb.cell (i := 1) (v := .int .i64 (x.links : Int)) rfl
  rw [hl1] at hb1
  have hf1 := hxb.frozen 1
  have hset := hxb.set 1 (.int .i64 0)
  have hd1 : (w.setCell ⟨x.blk, 1, none⟩ (.int .i64 0)).cell? ⟨x.blk, 1, none⟩ = some (.int .i64 0) := hset.cell rfl
  have hfr1 : Fr (fun b => b = x.blk ∨ b = rs ∨ b = m) w (w.setCell ⟨x.blk, 1, none⟩ (.int .i64 0)) := (Fr.refl (fun b => b = x.blk ∨ b = rs ∨ b = m) w).setCell (p := ⟨x.blk, 1, none⟩) (.inl (.inl rfl)) _
  have hfx : Fr (fun b => b = x.blk) w (w.setCell ⟨x.blk, 1, none⟩ (.int .i64 0)) := (Fr.refl (fun b => b = x.blk) w).setCell (p := ⟨x.blk, 1, none⟩) (.inl rfl) _
  have htb : t ≠ x.blk := fun e => blk_ne h.tab hxa.blk (by decide) e
  have htm : t ≠ m := fun e => hm.ne_blk h.tab e.symm
  have hc1' := hfx.cell h.c1 (fun e => htb e)
  have hc2' := hfx.cell h.c2 (fun e => htb e)
  have hm1 := hm.fr hfx (fun e => hm.ne_blk hxa.blk e)
  have hbm : x.blk ≠ m := fun e => hm.ne_blk hxa.blk e.symm
  obtain ⟨ba, bcap, hbv⟩ := hxa.row.shape
  have HG : Hid (∀ w2, Fr (fun b => b = m) (w.setCell ⟨x.blk, 1, none⟩ (.int .i64 0)) w2 → w2.cell? ⟨t, 1, none⟩ = some (.pointer (some ⟨ps, 0, none⟩)) ∧ w2.cell? ⟨x.blk, 3, none⟩ = some (.slice ba x.bl.length bcap) ∧ SpAt w2 ps rs us ∧ Sl w2 (.slice ba x.bl.length bcap) (icells (x.bl.map fun (j : Nat) => (j : Int))) (x.bl.map fun (j : Nat) => (j : Int)).length 1) := hidd (by
    intro w2 hf2
    have h3 : Fr (fun b => b = x.blk ∨ b = rs ∨ b = m) w w2 := hfr1.trans' hf2 (fun _ _ x => x) (fun _ _ e => .inr (.inr e))
    refine ⟨hf2.cell hc1' htm, hf2.cell (hset.cell (i := 3) (by rw [← hbv]; rfl)) hbm, ?_, ?_⟩
    · have := h.sp.fr hfx (fun e => blk_ne h.sp.head hxa.blk (by decide) e) (fun e => blk_ne h.sp.row hxa.blk (by decide) e)
      exact this.fr hf2 (fun e => hm.ne_blk h.sp.head e.symm) (fun e => hm.ne_blk h.sp.row e.symm)
    · rw [← ints_icells, List.length_map, ← hbv]
      refine (hxa.row.fr h3 ?_).sl
      rintro g hg (rfl | rfl | rfl)
      · exact own_ne hxa.row hxa.blk (by decide) hg
      · exact own_ne hxa.row h.sp.row (by decide) hg
      · exact own_ne_map hxa.row hm hg)
  have HNE : Hid ((Value.slice ba x.bl.length bcap).ownBlock ≠ some rs) := hidd (by rw [← hbv]; exact own_ne hxa.row h.sp.row (by decide))
  have hbad : (x.bl.map fun (j : Nat) => (j : Int)).any (badK us.length) = false := by
    rw [List.any_eq_false]
    intro y hy
    obtain ⟨j, hj, rfl⟩ := List.mem_map.1 hy
    have := hxo.inr j hj
    have := h.len
    unfold badK
    simp; omega
  have hgok := gOk_of (us := us) hxo.nod (fun b hb => (h.usd b).2 ⟨k, x, hx, hb⟩)
  have HBAD := hidd hbad
  have HGOK := hidd hgok
  have hgl := nat_back x.bl
  have HP : Hid (∀ w2 w3, MapIs w2 m n (fun i => if i = (k : Int) then none else mapOf T i) → Fr (fun b => b = m) (w.setCell ⟨x.blk, 1, none⟩ (.int .i64 0)) w2 → SpAt w3 ps rs (giv us ((x.bl.map fun (j : Nat) => (j : Int)).map Int.toNat)) → Fr (fun b => b = rs) w2 w3 → UlPost pc B t p r ps rs m N T us ls k x w (.returned .nilIface) w3) := hidd (by
    intro w2 w3 g1 g2 g3 g4
    rw [hgl] at g3
    have h3 : Fr (fun b => b = x.blk ∨ b = rs ∨ b = m) w w3 := (hfr1.trans' g2 (fun _ _ x => x) (fun _ _ e => .inr (.inr e))).trans' g4 (fun _ _ x => x) (fun _ _ e => .inr (.inl e))
    refine ⟨rfl, h.drop hx h3 g3 ⟨n, hn, ?_⟩, h3.mono (fun i _ hi => ?_)⟩
    · rw [mapOf_upd]
      exact g1.fr g4 (fun e => hm.ne_blk h.sp.row e)
    · rcases hi with rfl | rfl | rfl
      · exact .inr (.inr (.inr (.inr ⟨k, x, hx, rfl⟩)))
      · exact .inr (.inr (.inl rfl))
      · exact .inr (.inr (.inr (.inl rfl))))
  clear hfr1 hfx hxa hxo hxb h hm hn hset hbad hgok hgl hbv htb htm hbm hl1
  generalize x.blk = bx at *
  generalize (x.bl.map fun (j : Nat) => (j : Int)) = L at *
  generalize x.bl.length = bn at *
  go_enter Tryz.func41, Tryz.ntmps41
  go_wp2_with (at_delete; refine wpList_map_del _ rfl (.tmp 34) (.tmp 35) rfl rfl hm1 (k : Int) rfl (by omega) ?_)
  intro w2 hm2 hf2
  obtain ⟨d1, d3, hsp2, hsl2⟩ := HG.out w2 hf2
  have e1 : w2.drew.cell? ⟨t, 1, none⟩ = some (.pointer (some ⟨ps, 0, none⟩)) := d1
  have e3 : w2.drew.cell? ⟨bx, 3, none⟩ = some (.slice ba bn bcap) := d3
  go_wp2_with fail
  go_region_with ((go_at_call 63; refine (give_ok ps rs us _ L _ hsp2.drew hsl2 HNE.out HBAD.out HGOK.out).mono ?_; rintro e w3 ⟨rfl, hsp3, hf3⟩))
  all_goals
    go_wp2_with fail
    go_ret
    exact HP.out w2 _ hm2 hf2 hsp3 ⟨hf3.os, hf3.tape, hf3.output, hf3.size, hf3.block⟩
end Go.Proofs.YtcpilhembdphoaaGreatDoor
