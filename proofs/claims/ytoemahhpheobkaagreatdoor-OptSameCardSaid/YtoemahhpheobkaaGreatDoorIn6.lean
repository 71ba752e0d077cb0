/- An inode table between calls; Link, Unlink, Stat. Condition: the table is one that New gave. · Unlink. Condition: the table is one that New gave. · Link, Unlink, Read of a number that is none; Stat. Condition: the table is one that New gave. · Read. Condition: the table is one that New gave. -/
import Derived.Test.YtoemahhpheobkaaGreatDoorIn2
import Derived.Test.YtoemahhpheobkaaGreatDoorSkP
import Derived.Test.YtoemahhpheobkaaGreatDoorEnv
import Derived.Test.YtoemahhpheobkaaGreatDoorSum
import Derived.Test.YtoemahhpheobkaaGreatDoorSpC
import Derived.Laws.ResultCell
import Derived.Test.YtoemahhpheobkaaGreatDoorBd
import Derived.Test.YtoemahhpheobkaaGreatDoorShelf
namespace Go.Proofs.YtoemahhpheobkaaGreatDoor
open Go.RowKit

/-- An inode: its text, its links, its blocks; where it lies, where its list of blocks lies. -/
structure Ino where
  data : ByteArray
  exec : Bool
  links : Nat
  bl : List Nat
  blk : Nat
  bv : Value
def inoCells (x : Ino) : List Value := [.int .i64 (x.data.size : Int), .int .i64 (x.links : Int), .bool x.exec, x.bv, .int .u32 (crc x.data.data.toList : Nat)]
structure InoAt (w : World) (x : Ino) : Prop where
  blk : Blk w x.blk (inoCells x) 54
  row : Ow (fun _ => True) w 3 1 x.bv x.bl.length (ints x.bl)
/-- What its list says of the disk. -/
structure InoOk (pc : Prop) (N : Nat) (ls : List ByteArray) (x : Ino) : Prop where
  pos : 1 ≤ x.links
  big : x.links ≤ N
  len : x.bl.length = needN x.data.size
  nod : x.bl.Nodup
  inr : ∀ b ∈ x.bl, b < ls.length
  pcs : pc → ∀ i, i < x.bl.length → ls.getD (x.bl.getD i 0) ByteArray.empty = pcB x.data i
  size : x.data.size ≤ 2000

theorem blk_ne {w : World} {b c : Nat} {cs ds : List Value} {S T : TypeId} (h : Blk w b cs S) (k : Blk w c ds T) (hn : S ≠ T) : b ≠ c := by
  rintro rfl
  unfold Blk at h k
  rw [h] at k
  injection k with k
  injection k with _ k
  exact hn k
theorem own_ne {F : Nat → Prop} {w : World} {v : Value} {n : Nat} {xs : List Value} {S : TypeId} {size : Nat} (h : Ow F w S size v n xs) {b : Nat} {cs : List Value} {T : TypeId} (k : Blk w b cs T) (hn : S ≠ T) : v.ownBlock ≠ some b := by
  rcases h.2 with ⟨rfl, -⟩ | ⟨g, o, cap, cur, rfl, -, hg, -⟩
  · simp [Value.ownBlock]
  · simp only [Value.ownBlock, ne_eq, Option.some.injEq]
    rintro rfl
    unfold Blk at k
    rw [hg] at k
    injection k with k
    injection k with _ k
    exact hn k
theorem own_ne_map {F : Nat → Prop} {w : World} {v : Value} {n : Nat} {xs : List Value} {S : TypeId} {size : Nat} (h : Ow F w S size v n xs) {m N : Nat} {f : Int → Option Nat} (k : MapIs w m N f) : v.ownBlock ≠ some m := by
  rcases h.2 with ⟨rfl, -⟩ | ⟨g, o, cap, cur, rfl, -, hg, -⟩
  · simp [Value.ownBlock]
  · simp only [Value.ownBlock, ne_eq, Option.some.injEq]
    rintro rfl
    obtain ⟨D, ⟨es, clock, hh, -⟩, -⟩ := k
    rw [hg] at hh
    cases hh

/-- What the map holds. -/
def mapOf (T : Nat → Option Ino) (k : Int) : Option Nat := if 0 ≤ k then (T k.toNat).map Ino.blk else none

/-- A table: where its parts lie, its inodes. -/
structure TbAt (pc : Prop) (w : World) (B t p r ps rs m N : Nat) (T : Nat → Option Ino) (us : List Bool) (ls : List ByteArray) : Prop where
  tab : Blk w t [.pointer (some ⟨p, 0, none⟩), .pointer (some ⟨ps, 0, none⟩), .map (some m)] 106
  dk : DkAt w p r (.slice none 0 0) ls []
  sp : SpAt w ps rs us
  mp : ∃ n, n ≤ N ∧ MapIs w m n (mapOf T)
  ino : ∀ k x, T k = some x → InoAt w x
  ok : ∀ k x, T k = some x → InoOk pc N ls x
  inj : ∀ k l x y, T k = some x → T l = some y → k ≠ l → x.blk ≠ y.blk
  dis : ∀ k l x y, T k = some x → T l = some y → k ≠ l → ∀ b ∈ x.bl, b ∉ y.bl
  usd : ∀ b, us.getD b false = true ↔ ∃ k x, T k = some x ∧ b ∈ x.bl
  len : us.length = ls.length
  fin : ∃ K, K ≤ N ∧ ∀ k, K ≤ k → T k = none
  base : B ≤ p ∧ B ≤ r ∧ B ≤ ps ∧ B ≤ rs ∧ B ≤ m ∧ B ≤ t
  bases : ∀ k x, T k = some x → B ≤ x.blk
/-- The blocks that an act on a table may turn. -/
def tbS (p r rs m : Nat) (T : Nat → Option Ino) (b : Nat) : Prop := b = p ∨ b = r ∨ b = rs ∨ b = m ∨ ∃ k x, T k = some x ∧ b = x.blk

section
variable {pc : Prop} {w w' : World} {B t p r ps rs m N : Nat} {T : Nat → Option Ino} {us : List Bool} {ls : List ByteArray}
theorem InoAt.fr {S : Nat → Prop} {x : Ino} (h : InoAt w x) (hf : Fr S w w') (hb : ¬ S x.blk) (hv : ∀ k, x.bv.ownBlock = some k → ¬ S k) : InoAt w' x := ⟨h.blk.fr hf hb, h.row.fr hf hv⟩
theorem InoAt.ob {x : Ino} (h : InoAt w x) (hf : Below w.heap.size w w') : InoAt w' x := ⟨h.blk.below hf h.blk.lt, h.row.ob hf⟩
theorem TbAt.ob {pc : Prop} (h : TbAt pc w B t p r ps rs m N T us ls) (hf : Below w.heap.size w w') : TbAt pc w' B t p r ps rs m N T us ls :=
  { h with tab := h.tab.below hf h.tab.lt, dk := h.dk.ob hf (Nat.le_refl _), sp := h.sp.ob hf (Nat.le_refl _), mp := by obtain ⟨n, hn, hm⟩ := h.mp; exact ⟨n, hn, hm.ob hf (Nat.le_refl _)⟩, ino := fun k x hx => (h.ino k x hx).ob hf }
theorem TbAt.more {pc : Prop} (h : TbAt pc w B t p r ps rs m N T us ls) {N' : Nat} (hN : N ≤ N') : TbAt pc w B t p r ps rs m N' T us ls :=
  { h with mp := by obtain ⟨n, hn, hm⟩ := h.mp; exact ⟨n, Nat.le_trans hn hN, hm⟩, ok := fun k x hx => { h.ok k x hx with big := Nat.le_trans (h.ok k x hx).big hN }, fin := by obtain ⟨K, hK, h⟩ := h.fin; exact ⟨K, Nat.le_trans hK hN, h⟩ }
theorem TbAt.apart {pc : Prop} (h : TbAt pc w B t p r ps rs m N T us ls) {F : Nat → Prop} {v : Value} {n : Nat} {xs : List Value} (ho : Ow F w 3 1 v n xs) : ∀ k, v.ownBlock = some k → ¬ tbS p r rs m T k := by
  rintro k hk (rfl | rfl | rfl | rfl | ⟨l, x, hx, rfl⟩)
  · exact own_ne ho h.dk.head (by decide) hk
  · exact own_ne ho h.dk.row (by decide) hk
  · exact own_ne ho h.sp.row (by decide) hk
  · obtain ⟨n, -, hm⟩ := h.mp; exact own_ne_map ho hm hk
  · exact own_ne ho (h.ino l x hx).blk (by decide) hk
theorem TbAt.tabN {pc : Prop} (h : TbAt pc w B t p r ps rs m N T us ls) : ¬ tbS p r rs m T t := by
  rintro (e | e | e | e | ⟨l, x, hx, e⟩)
  · exact blk_ne h.tab h.dk.head (by decide) e
  · exact blk_ne h.tab h.dk.row (by decide) e
  · exact blk_ne h.tab h.sp.row (by decide) e
  · obtain ⟨n, -, hm⟩ := h.mp; exact hm.ne_blk h.tab e.symm
  · exact blk_ne h.tab (h.ino l x hx).blk (by decide) e
theorem TbAt.baseS {pc : Prop} (h : TbAt pc w B t p r ps rs m N T us ls) : ∀ b, tbS p r rs m T b → B ≤ b := by
  rintro b (rfl | rfl | rfl | rfl | ⟨l, x, hx, rfl⟩)
  · exact h.base.1
  · exact h.base.2.1
  · exact h.base.2.2.2.1
  · exact h.base.2.2.2.2.1
  · exact h.bases l x hx
theorem TbAt.c0 {pc : Prop} (h : TbAt pc w B t p r ps rs m N T us ls) : w.cell? ⟨t, 0, none⟩ = some (.pointer (some ⟨p, 0, none⟩)) := h.tab.cell rfl
theorem TbAt.c1 {pc : Prop} (h : TbAt pc w B t p r ps rs m N T us ls) : w.cell? ⟨t, 1, none⟩ = some (.pointer (some ⟨ps, 0, none⟩)) := h.tab.cell rfl
theorem TbAt.c2 {pc : Prop} (h : TbAt pc w B t p r ps rs m N T us ls) : w.cell? ⟨t, 2, none⟩ = some (.map (some m)) := h.tab.cell rfl
def upd (T : Nat → Option Ino) (k : Nat) (o : Option Ino) (i : Nat) : Option Ino := if i = k then o else T i
theorem upd_same (T : Nat → Option Ino) (k : Nat) (o : Option Ino) : upd T k o k = o := by simp [upd]
theorem upd_other (T : Nat → Option Ino) (k : Nat) (o : Option Ino) {i : Nat} (h : i ≠ k) : upd T k o i = T i := by simp [upd, h]
theorem mapOf_upd (T : Nat → Option Ino) (k : Nat) (o : Option Ino) : mapOf (upd T k o) = fun i => if i = (k : Int) then o.map Ino.blk else mapOf T i := by
  funext i
  unfold mapOf upd
  by_cases e : i = (k : Int)
  · subst e; simp
  · rw [if_neg e]
    by_cases h0 : 0 ≤ i
    · rw [if_pos h0, if_pos h0, if_neg (by omega)]
    · rw [if_neg h0, if_neg h0]
/-- The same table where one inode's links are others. -/
theorem TbAt.relink {pc : Prop} (h : TbAt pc w B t p r ps rs m N T us ls) {k : Nat} {x : Ino} (hx : T k = some x) (l : Nat) (h1 : 1 ≤ l) (h2 : l ≤ N + 1) (hf : Fr (fun b => b = x.blk) w w') (hb : Blk w' x.blk (inoCells { x with links := l }) 54) :
    TbAt pc w' B t p r ps rs m (N + 1) (upd T k (some { x with links := l })) us ls := by
  have hS : ∀ b, (b = x.blk) → tbS p r rs m T b := fun b hb => .inr (.inr (.inr (.inr ⟨k, x, hx, hb⟩)))
  have hxa := h.ino k x hx
  have hxo := h.ok k x hx
  have key : ∀ i y, upd T k (some { x with links := l }) i = some y → ∃ y0, T i = some y0 ∧ y.bl = y0.bl ∧ y.blk = y0.blk ∧ y.data = y0.data ∧ y.bv = y0.bv := by
    intro i y hy
    by_cases e : i = k
    · subst e; rw [upd_same] at hy; cases hy; exact ⟨x, hx, rfl, rfl, rfl, rfl⟩
    · rw [upd_other _ _ _ e] at hy; exact ⟨y, hy, rfl, rfl, rfl, rfl⟩
  have hm1 : mapOf (upd T k (some { x with links := l })) = mapOf T := by
    rw [mapOf_upd]
    funext i
    by_cases e : i = (k : Int)
    · subst e; simp [mapOf, hx]
    · rw [if_neg e]
  refine { h with
    tab := h.tab.fr hf (fun e => blk_ne h.tab hxa.blk (by decide) e)
    dk := h.dk.fr hf (by rintro b (rfl | rfl | hb') e; exact blk_ne h.dk.head hxa.blk (by decide) e; exact blk_ne h.dk.row hxa.blk (by decide) e; simp [Value.ownBlock] at hb')
    sp := h.sp.fr hf (fun e => blk_ne h.sp.head hxa.blk (by decide) e) (fun e => blk_ne h.sp.row hxa.blk (by decide) e)
    mp := by
      obtain ⟨n, hn, hm⟩ := h.mp
      rw [hm1]
      exact ⟨n, by omega, hm.fr hf (fun e => hm.ne_blk hxa.blk e)⟩
    ino := fun i y hy => ?_
    ok := fun i y hy => ?_
    inj := fun i j y z hy hz hij => ?_
    dis := fun i j y z hy hz hij b hb => ?_
    usd := fun b => ?_
    fin := ?_
    bases := fun i y hy => ?_ }
  · by_cases e : i = k
    · subst e; rw [upd_same] at hy; cases hy
      exact ⟨hb, hxa.row.fr hf (fun g hg e => own_ne hxa.row hxa.blk (by decide) (e ▸ hg))⟩
    · rw [upd_other _ _ _ e] at hy
      have hy' := h.ino i y hy
      exact hy'.fr hf (fun e' => h.inj i k y x hy hx e e') (fun g hg e => own_ne hy'.row hxa.blk (by decide) (e ▸ hg))
  · by_cases e : i = k
    · subst e; rw [upd_same] at hy; cases hy
      exact { hxo with pos := h1, big := h2 }
    · rw [upd_other _ _ _ e] at hy
      exact { h.ok i y hy with big := by have := (h.ok i y hy).big; omega }
  · obtain ⟨y0, g1, g2, g3, g4⟩ := key i y hy
    obtain ⟨z0, k1, k2, k3, k4⟩ := key j z hz
    rw [g3, k3]
    exact h.inj i j y0 z0 g1 k1 hij
  · obtain ⟨y0, g1, g2, g3, g4⟩ := key i y hy
    obtain ⟨z0, k1, k2, k3, k4⟩ := key j z hz
    rw [k2]
    exact h.dis i j y0 z0 g1 k1 hij b (g2 ▸ hb)
  · rw [h.usd b]
    constructor
    · rintro ⟨i, y, hy, hb⟩
      by_cases e : i = k
      · subst e; rw [hx] at hy; cases hy; exact ⟨i, _, upd_same _ _ _, hb⟩
      · exact ⟨i, y, by rw [upd_other _ _ _ e]; exact hy, hb⟩
    · rintro ⟨i, y, hy, hb⟩
      obtain ⟨y0, g1, g2, g3, g4⟩ := key i y hy
      exact ⟨i, y0, g1, g2 ▸ hb⟩
  · obtain ⟨K, hK, hf⟩ := h.fin
    refine ⟨K, by omega, fun i hi => ?_⟩
    rw [upd_other _ _ _ (by rintro rfl; rw [hf _ hi] at hx; cases hx)]
    exact hf i hi
  · obtain ⟨y0, g1, g2, g3, g4⟩ := key i y hy
    rw [g3]
    exact h.bases i y0 g1
end

/-- One link more. -/
def LkPost (pc : Prop) (B t p r ps rs m N : Nat) (T : Nat → Option Ino) (us : List Bool) (ls : List ByteArray) (k : Nat) (x : Ino) (l : Nat) (w : World) (e : Ending) (w' : World) : Prop :=
  e = .returned .nilIface ∧ TbAt pc w' B t p r ps rs m (N + 1) (upd T k (some { x with links := l })) us ls ∧ Fr (tbS p r rs m T) w w'

set_option maxHeartbeats 2000000 in
theorem link_ok {pc : Prop} (B t p r ps rs m N : Nat) (T : Nat → Option Ino) (us : List Bool) (ls : List ByteArray) (k : Nat) (x : Ino) (w : World) (h : TbAt pc w B t p r ps rs m N T us ls) (hN : N ≤ 1000000) (hk : k ≤ 1000000) (hx : T k = some x) :
    Calls Tryz.prog 36 #[.pointer (some ⟨t, 0, none⟩), .int .i64 (k : Int)] w (LkPost pc B t p r ps rs m N T us ls k x (x.links + 1) w) := by
  obtain ⟨n, hn, hm⟩ := h.mp
  have hc2 := h.c2
  have hl := hm.look_ok (k := (k : Int)) (by omega)
  rw [show mapOf T (k : Int) = some x.blk by simp [mapOf, hx]] at hl
  simp only [ptrV, Option.map_some, Option.isSome_some] at hl
  have hxa := h.ino k x hx
  have hxb := hxa.blk
  have hb1 := hxb.cell (i := 1) (v := .int .i64 (x.links : Int)) rfl
  have hf1 := hxb.frozen 1
  have hbig := (h.ok k x hx).big
  have hwr : IntKind.i64.wrap ((x.links : Int) + 1) = ((x.links + 1 : Nat) : Int) := by rw [i64_in _ (by omega)]; omega
  have hrl := h.relink hx (x.links + 1) (by omega) (by omega) (w' := w.setCell ⟨x.blk, 1, none⟩ (.int .i64 ((x.links + 1 : Nat) : Int))) ((Fr.refl (fun b => b = x.blk) w).setCell (p := ⟨x.blk, 1, none⟩) (.inl rfl) _) (hxb.set 1 (.int .i64 ((x.links + 1 : Nat) : Int)))
  have hfr : Fr (tbS p r rs m T) w (w.setCell ⟨x.blk, 1, none⟩ (.int .i64 ((x.links + 1 : Nat) : Int))) := (Fr.refl (tbS p r rs m T) w).setCell (p := ⟨x.blk, 1, none⟩) (.inl (.inr (.inr (.inr (.inr ⟨k, x, hx, rfl⟩))))) _
  have HP : Hid (LkPost pc B t p r ps rs m N T us ls k x (x.links + 1) w (.returned .nilIface) (w.setCell ⟨x.blk, 1, none⟩ (.int .i64 ((x.links + 1 : Nat) : Int)))) := hidd ⟨rfl, hrl, hfr⟩
  clear hrl hfr hxa hxb h hm hn
  generalize x.blk = bx at *
  generalize x.links = lk at *
  go_enter Tryz.func36, Tryz.ntmps36
  go_wp2_with fail
  go_ret
  exact HP
end Go.Proofs.YtoemahhpheobkaaGreatDoor

namespace Go.Proofs.YtoemahhpheobkaaGreatDoor
open Go.RowKit

section
variable {pc : Prop} {w w' : World} {B t p r ps rs m N : Nat} {T : Nat → Option Ino} {us : List Bool} {ls : List ByteArray}
theorem TbAt.drop {pc : Prop} (h : TbAt pc w B t p r ps rs m N T us ls) {k : Nat} {x : Ino} (hx : T k = some x) (hf : Fr (fun b => b = x.blk ∨ b = rs ∨ b = m) w w') (hsp : SpAt w' ps rs (giv us x.bl)) (hmp : ∃ n, n ≤ N ∧ MapIs w' m n (mapOf (upd T k none))) :
    TbAt pc w' B t p r ps rs m N (upd T k none) (giv us x.bl) ls := by
  have hxa := h.ino k x hx
  obtain ⟨n, hn, hm⟩ := h.mp
  have key : ∀ i y, upd T k none i = some y → T i = some y ∧ i ≠ k := by
    intro i y hy
    by_cases e : i = k
    · subst e; rw [upd_same] at hy; cases hy
    · rw [upd_other _ _ _ e] at hy; exact ⟨hy, e⟩
  have hne : ∀ {b : Nat} {cs : List Value} {S : TypeId}, Blk w b cs S → S ≠ 54 → S ≠ 4 → ¬ (b = x.blk ∨ b = rs ∨ b = m) := by
    rintro b cs S hb h1 h2 (e | e | e)
    · exact blk_ne hb hxa.blk h1 e
    · exact blk_ne hb h.sp.row h2 e
    · exact hm.ne_blk hb e.symm
  have hlt : ∀ b ∈ x.bl, b < us.length := by rw [h.len]; exact (h.ok k x hx).inr
  refine { h with
    tab := h.tab.fr hf (hne h.tab (by decide) (by decide))
    dk := h.dk.fr hf (by
      rintro b (rfl | rfl | hb')
      · exact hne h.dk.head (by decide) (by decide)
      · exact hne h.dk.row (by decide) (by decide)
      · simp [Value.ownBlock] at hb')
    sp := hsp
    mp := hmp
    ino := fun i y hy => ?_
    ok := fun i y hy => h.ok i y (key i y hy).1
    inj := fun i j y z hy hz hij => h.inj i j y z (key i y hy).1 (key j z hz).1 hij
    dis := fun i j y z hy hz hij => h.dis i j y z (key i y hy).1 (key j z hz).1 hij
    usd := fun b => ?_
    len := by rw [giv_len]; exact h.len
    fin := ?_
    bases := fun i y hy => h.bases i y (key i y hy).1 }
  · obtain ⟨hy, e⟩ := key i y hy
    have hy' := h.ino i y hy
    refine hy'.fr hf ?_ ?_
    · rintro (e' | e' | e')
      · exact h.inj i k y x hy hx e e'
      · exact blk_ne hy'.blk h.sp.row (by decide) e'
      · exact hm.ne_blk hy'.blk e'.symm
    · rintro g hg (rfl | rfl | rfl)
      · exact own_ne hy'.row hxa.blk (by decide) hg
      · exact own_ne hy'.row h.sp.row (by decide) hg
      · exact own_ne_map hy'.row hm hg
  · rw [giv_used _ _ hlt, h.usd b]
    constructor
    · rintro ⟨⟨i, y, hy, hb⟩, hn⟩
      refine ⟨i, y, ?_, hb⟩
      rw [upd_other _ _ _ (by rintro rfl; rw [hx] at hy; cases hy; exact hn hb)]
      exact hy
    · rintro ⟨i, y, hy, hb⟩
      obtain ⟨hy, e⟩ := key i y hy
      exact ⟨⟨i, y, hy, hb⟩, fun hbx => h.dis i k y x hy hx e b hb hbx⟩
  · obtain ⟨K, hK, hf⟩ := h.fin
    refine ⟨K, hK, fun i hi => ?_⟩
    by_cases e : i = k
    · subst e; rw [upd_same]
    · rw [upd_other _ _ _ e]; exact hf i hi
end

set_option maxHeartbeats 2000000 in
theorem unlink_more {pc : Prop} (B t p r ps rs m N : Nat) (T : Nat → Option Ino) (us : List Bool) (ls : List ByteArray) (k : Nat) (x : Ino) (w : World) (h : TbAt pc w B t p r ps rs m N T us ls) (hN : N ≤ 1000000) (hk : k ≤ 1000000) (hx : T k = some x) (l : Nat) (hl2 : x.links = l + 1) (hl1 : 1 ≤ l) :
    Calls Tryz.prog 34 #[.pointer (some ⟨t, 0, none⟩), .int .i64 (k : Int)] w (LkPost pc B t p r ps rs m N T us ls k x l w) := by
  obtain ⟨n, hn, hm⟩ := h.mp
  have hc2 := h.c2
  have hl := hm.look_ok (k := (k : Int)) (by omega)
  rw [show mapOf T (k : Int) = some x.blk by simp [mapOf, hx]] at hl
  simp only [ptrV, Option.map_some, Option.isSome_some] at hl
  have hxa := h.ino k x hx
  have hxb := hxa.blk
  have hb1 := hxb.cell (i := 1) (v := .int .i64 (x.links : Int)) rfl
  have hf1 := hxb.frozen 1
  have hbig := (h.ok k x hx).big
  have hwr : IntKind.i64.wrap ((x.links : Int) - 1) = ((l : Nat) : Int) := by rw [i64_in _ (by omega)]; omega
  have hz : ((l : Int) == 0) = false := by simp; omega
  have hz2 : ¬ l = 0 := by omega
  have hrl := h.relink hx l (by omega) (by omega) (w' := w.setCell ⟨x.blk, 1, none⟩ (.int .i64 ((l : Nat) : Int))) ((Fr.refl (fun b => b = x.blk) w).setCell (p := ⟨x.blk, 1, none⟩) (.inl rfl) _) (hxb.set 1 (.int .i64 ((l : Nat) : Int)))
  have hfr : Fr (tbS p r rs m T) w (w.setCell ⟨x.blk, 1, none⟩ (.int .i64 ((l : Nat) : Int))) := (Fr.refl (tbS p r rs m T) w).setCell (p := ⟨x.blk, 1, none⟩) (.inl (.inr (.inr (.inr (.inr ⟨k, x, hx, rfl⟩))))) _
  have HP : Hid (LkPost pc B t p r ps rs m N T us ls k x l w (.returned .nilIface) (w.setCell ⟨x.blk, 1, none⟩ (.int .i64 ((l : Nat) : Int)))) := hidd ⟨rfl, hrl, hfr⟩
  have hd1 : (w.setCell ⟨x.blk, 1, none⟩ (.int .i64 (l : Int))).cell? ⟨x.blk, 1, none⟩ = some (.int .i64 (l : Int)) := (hxb.set 1 (.int .i64 ((l : Nat) : Int))).cell rfl
  clear hrl hfr hxa hxb h hm hn
  generalize x.blk = bx at *
  generalize x.links = lk at *
  clear hl2
  go_enter Tryz.func34, Tryz.ntmps34
  go_wp2_with fail
  go_ret
  exact HP

/-- The last link less. -/
def UlPost (pc : Prop) (B t p r ps rs m N : Nat) (T : Nat → Option Ino) (us : List Bool) (ls : List ByteArray) (k : Nat) (x : Ino) (w : World) (e : Ending) (w' : World) : Prop :=
  e = .returned .nilIface ∧ TbAt pc w' B t p r ps rs m N (upd T k none) (giv us x.bl) ls ∧ Fr (tbS p r rs m T) w w'

theorem ints_icells (l : List Nat) : ints l = icells (l.map fun (j : Nat) => (j : Int)) := by simp [ints, icells]
theorem nat_back (l : List Nat) : (l.map fun (j : Nat) => (j : Int)).map Int.toNat = l := by
  induction l with
  | nil => rfl
  | cons a l ih => simp only [List.map_cons, ih]; simp
theorem gOk_of {us : List Bool} {l : List Nat} (hn : l.Nodup) (hu : ∀ b ∈ l, us.getD b false = true) : gOk us (l.map fun (j : Nat) => (j : Int)) (l.map fun (j : Nat) => (j : Int)).length := by
  intro i hi
  rw [List.length_map] at hi
  have hg : (l.map fun (j : Nat) => (j : Int)).getD i 0 = ((l[i] : Nat) : Int) := by rw [List.getD_eq_getElem?_getD, List.getElem?_eq_getElem (by simpa using hi)]; simp
  rw [hg]
  refine ⟨hu _ (List.getElem_mem _), fun hm => ?_⟩
  rw [← List.map_take] at hm
  obtain ⟨y, hy, e⟩ := List.mem_map.1 hm
  have : y = l[i] := Int.ofNat.inj e
  subst this
  obtain ⟨j, hj, e⟩ := List.getElem_of_mem hy
  rw [List.length_take] at hj
  rw [List.getElem_take] at e
  exact (List.pairwise_iff_getElem.1 hn) j i (by omega) hi (by omega) e

set_option maxRecDepth 100000 in
set_option maxHeartbeats 2000000 in
theorem unlink_last {pc : Prop} (B t p r ps rs m N : Nat) (T : Nat → Option Ino) (us : List Bool) (ls : List ByteArray) (k : Nat) (x : Ino) (w : World) (h : TbAt pc w B t p r ps rs m N T us ls) (hk : k ≤ 1000000) (hx : T k = some x) (hl1 : x.links = 1) :
    Calls Tryz.prog 34 #[.pointer (some ⟨t, 0, none⟩), .int .i64 (k : Int)] w (UlPost pc B t p r ps rs m N T us ls k x w) := by
  obtain ⟨n, hn, hm⟩ := h.mp
  have hc2 := h.c2
  have hl := hm.look_ok (k := (k : Int)) (by omega)
  rw [show mapOf T (k : Int) = some x.blk by simp [mapOf, hx]] at hl
  simp only [ptrV, Option.map_some, Option.isSome_some] at hl
  have hxa := h.ino k x hx
  have hxo := h.ok k x hx
  have hxb := hxa.blk
  have hb1 := hxb.cell (i := 1) (v := .int .i64 (x.links : Int)) rfl
  rw [hl1] at hb1
  have hf1 := hxb.frozen 1
  have hset := hxb.set 1 (.int .i64 0)
  have hd1 : (w.setCell ⟨x.blk, 1, none⟩ (.int .i64 0)).cell? ⟨x.blk, 1, none⟩ = some (.int .i64 0) := hset.cell rfl
  have hfr1 : Fr (fun b => b = x.blk ∨ b = rs ∨ b = m) w (w.setCell ⟨x.blk, 1, none⟩ (.int .i64 0)) := (Fr.refl (fun b => b = x.blk ∨ b = rs ∨ b = m) w).setCell (p := ⟨x.blk, 1, none⟩) (.inl (.inl rfl)) _
  have hfx : Fr (fun b => b = x.blk) w (w.setCell ⟨x.blk, 1, none⟩ (.int .i64 0)) := (Fr.refl (fun b => b = x.blk) w).setCell (p := ⟨x.blk, 1, none⟩) (.inl rfl) _
  have htb : t ≠ x.blk := fun e => blk_ne h.tab hxa.blk (by decide) e
  have htm : t ≠ m := fun e => hm.ne_blk h.tab e.symm
  have hc1' := hfx.cell h.c1 (fun e => htb e)
  have hc2' := hfx.cell h.c2 (fun e => htb e)
  have hm1 := hm.fr hfx (fun e => hm.ne_blk hxa.blk e)
  have hbm : x.blk ≠ m := fun e => hm.ne_blk hxa.blk e.symm
  obtain ⟨ba, bcap, hbv⟩ := hxa.row.shape
  have HG : Hid (∀ w2, Fr (fun b => b = m) (w.setCell ⟨x.blk, 1, none⟩ (.int .i64 0)) w2 → w2.cell? ⟨t, 1, none⟩ = some (.pointer (some ⟨ps, 0, none⟩)) ∧ w2.cell? ⟨x.blk, 3, none⟩ = some (.slice ba x.bl.length bcap) ∧ SpAt w2 ps rs us ∧ Sl w2 (.slice ba x.bl.length bcap) (icells (x.bl.map fun (j : Nat) => (j : Int))) (x.bl.map fun (j : Nat) => (j : Int)).length 1) := hidd (by
    intro w2 hf2
    have h3 : Fr (fun b => b = x.blk ∨ b = rs ∨ b = m) w w2 := hfr1.trans' hf2 (fun _ _ x => x) (fun _ _ e => .inr (.inr e))
    refine ⟨hf2.cell hc1' htm, hf2.cell (hset.cell (i := 3) (by rw [← hbv]; rfl)) hbm, ?_, ?_⟩
    · have := h.sp.fr hfx (fun e => blk_ne h.sp.head hxa.blk (by decide) e) (fun e => blk_ne h.sp.row hxa.blk (by decide) e)
      exact this.fr hf2 (fun e => hm.ne_blk h.sp.head e.symm) (fun e => hm.ne_blk h.sp.row e.symm)
    · rw [← ints_icells, List.length_map, ← hbv]
      refine (hxa.row.fr h3 ?_).sl
      rintro g hg (rfl | rfl | rfl)
      · exact own_ne hxa.row hxa.blk (by decide) hg
      · exact own_ne hxa.row h.sp.row (by decide) hg
      · exact own_ne_map hxa.row hm hg)
  have HNE : Hid ((Value.slice ba x.bl.length bcap).ownBlock ≠ some rs) := hidd (by rw [← hbv]; exact own_ne hxa.row h.sp.row (by decide))
  have hbad : (x.bl.map fun (j : Nat) => (j : Int)).any (badK us.length) = false := by
    rw [List.any_eq_false]
    intro y hy
    obtain ⟨j, hj, rfl⟩ := List.mem_map.1 hy
    have := hxo.inr j hj
    have := h.len
    unfold badK
    simp; omega
  have hgok := gOk_of (us := us) hxo.nod (fun b hb => (h.usd b).2 ⟨k, x, hx, hb⟩)
  have HBAD := hidd hbad
  have HGOK := hidd hgok
  have hgl := nat_back x.bl
  have HP : Hid (∀ w2 w3, MapIs w2 m n (fun i => if i = (k : Int) then none else mapOf T i) → Fr (fun b => b = m) (w.setCell ⟨x.blk, 1, none⟩ (.int .i64 0)) w2 → SpAt w3 ps rs (giv us ((x.bl.map fun (j : Nat) => (j : Int)).map Int.toNat)) → Fr (fun b => b = rs) w2 w3 → UlPost pc B t p r ps rs m N T us ls k x w (.returned .nilIface) w3) := hidd (by
    intro w2 w3 g1 g2 g3 g4
    rw [hgl] at g3
    have h3 : Fr (fun b => b = x.blk ∨ b = rs ∨ b = m) w w3 := (hfr1.trans' g2 (fun _ _ x => x) (fun _ _ e => .inr (.inr e))).trans' g4 (fun _ _ x => x) (fun _ _ e => .inr (.inl e))
    refine ⟨rfl, h.drop hx h3 g3 ⟨n, hn, ?_⟩, h3.mono (fun i _ hi => ?_)⟩
    · rw [mapOf_upd]
      exact g1.fr g4 (fun e => hm.ne_blk h.sp.row e)
    · rcases hi with rfl | rfl | rfl
      · exact .inr (.inr (.inr (.inr ⟨k, x, hx, rfl⟩)))
      · exact .inr (.inr (.inl rfl))
      · exact .inr (.inr (.inr (.inl rfl))))
  clear hfr1 hfx hxa hxo hxb h hm hn hset hbad hgok hgl hbv htb htm hbm hl1
  generalize x.blk = bx at *
  generalize (x.bl.map fun (j : Nat) => (j : Int)) = L at *
  generalize x.bl.length = bn at *
  go_enter Tryz.func34, Tryz.ntmps34
  go_wp2_with (at_delete; refine wpList_map_del _ rfl (.tmp 34) (.tmp 35) rfl rfl hm1 (k : Int) rfl (by omega) ?_)
  intro w2 hm2 hf2
  obtain ⟨d1, d3, hsp2, hsl2⟩ := HG.out w2 hf2
  have e1 : w2.drew.cell? ⟨t, 1, none⟩ = some (.pointer (some ⟨ps, 0, none⟩)) := d1
  have e3 : w2.drew.cell? ⟨bx, 3, none⟩ = some (.slice ba bn bcap) := d3
  go_wp2_with fail
  go_region_with ((go_at_call 68; refine (give_ok ps rs us _ L _ hsp2.drew hsl2 HNE.out HBAD.out HGOK.out).mono ?_; rintro e w3 ⟨rfl, hsp3, hf3⟩))
  all_goals
    go_wp2_with fail
    go_ret
    exact HP.out w2 _ hm2 hf2 hsp3 ⟨hf3.os, hf3.tape, hf3.output, hf3.size, hf3.block⟩
end Go.Proofs.YtoemahhpheobkaaGreatDoor

namespace Go.Proofs.YtoemahhpheobkaaGreatDoor
open Go.RowKit

set_option maxRecDepth 100000 in
theorem clone_ow {F : Nat → Prop} (v : Value) (l : List Nat) (w : World) (h : Ow F w 3 1 v l.length (ints l)) (h5 : l.length ≤ 512) :
    Calls Tryz.prog 46 #[v] w fun e w' => ∃ a cap, e = .returned (.slice a l.length cap) ∧ Ow (fun g => w.heap.size ≤ g) w' 3 1 (.slice a l.length cap) l.length (ints l) ∧ Below w.heap.size w w' := by
  obtain ⟨i0, hi, hz0, hz1, hz2⟩ := info_parts infoI
  have h1 : ∀ u ∈ ints l, u.oneCell' = true := by
    intro u hu; obtain ⟨x, _, rfl⟩ := List.mem_map.1 hu; rfl
  have hsl := h.sl
  have hs := Src.sl (P := Tryz.prog) (tx := 44) Tryz.underlying44 (hsl.ob ((Below.refl w.heap.size w).alloc (Nat.le_refl _) (.cells #[] 3)) (Nat.le_refl _)) h1
  have hown : Ow (fun g => w.heap.size ≤ g) (w.alloc (.cells #[] 3)) 3 1 (.slice (some ⟨w.heap.size, 0, none⟩) 0 0) 0 [] :=
    ⟨by simp, .inr ⟨w.heap.size, 0, 0, #[], rfl, Nat.le_refl _, heap_alloc_new w _, Nat.le_refl _, by unfold maxLen; omega, by simp, by simp⟩⟩
  rcases h.2 with ⟨rfl, h0⟩ | ⟨g, off, cap, cur, rfl, -⟩
  · have hl0 : l = [] := List.eq_nil_of_length_eq_zero h0
    subst hl0
    clear hs hsl h hown h0
    go_enter Tryz.func46, Tryz.ntmps46
    go_wp2_with fail
    go_ret
    exact ⟨none, 0, rfl, Ow.nil _ _ _ _, Below.refl _ _⟩
  · clear hsl h
    go_enter Tryz.func46, Tryz.ntmps46
    go_wp2_with (at_builtin; refine wpList_append_ow _ rfl _ _ 44 44 rfl (fun g => w.heap.size ≤ g) ?cF 3 i0 (.int .i64 0) 1 8 Tryz.underlying44 hi hz0 hz1 hz2 rfl (by decide) _ _ _ rfl hown _ _ _ rfl hs ?c3 ?c4 ?_)
    case cF => intro g hg; simp at hg; omega
    case c3 => unfold maxLen; omega
    case c4 => omega
    intro v' w1 hown' hgrow
    obtain ⟨a', cap', rfl⟩ := hown'.shape
    go_wp2
    go_ret
    refine ⟨a', cap', by simp, by simpa using hown', ((Below.refl _ _).alloc (Nat.le_refl _) _).grown hgrow (by simp) (fun k hk => ?_)⟩
    simp [Value.ownBlock] at hk; omega

section
variable {pc : Prop} (B t p r ps rs m N : Nat) (T : Nat → Option Ino) (us : List Bool) (ls : List ByteArray) (k : Int) (w : World) (E : Nat → Addr)
/-- No such number. -/
theorem link_none {pc : Prop} (h : TbAt pc w B t p r ps rs m N T us ls) (hk : -9223372036854775808 ≤ k ∧ k ≤ 9223372036854775807) (hx : mapOf T k = none) (hE : w.cell? ⟨1, 0, none⟩ = some (erv E 1)) :
    Calls Tryz.prog 36 #[.pointer (some ⟨t, 0, none⟩), .int .i64 k] w fun e w' => e = .returned (erv E 1) ∧ w = w' := by
  obtain ⟨n, hn, hm⟩ := h.mp
  have hc2 := h.c2
  have hl := hm.look_ok hk
  rw [hx] at hl
  simp only [ptrV, Option.map_none, Option.isSome_none] at hl
  unfold erv at *
  clear h hm hn hx
  go_enter Tryz.func36, Tryz.ntmps36
  go_wp2_with fail
  go_ret
  exact ⟨rfl, rfl⟩
theorem unlink_none {pc : Prop} (h : TbAt pc w B t p r ps rs m N T us ls) (hk : -9223372036854775808 ≤ k ∧ k ≤ 9223372036854775807) (hx : mapOf T k = none) (hE : w.cell? ⟨1, 0, none⟩ = some (erv E 1)) :
    Calls Tryz.prog 34 #[.pointer (some ⟨t, 0, none⟩), .int .i64 k] w fun e w' => e = .returned (erv E 1) ∧ w = w' := by
  obtain ⟨n, hn, hm⟩ := h.mp
  have hc2 := h.c2
  have hl := hm.look_ok hk
  rw [hx] at hl
  simp only [ptrV, Option.map_none, Option.isSome_none] at hl
  unfold erv at *
  clear h hm hn hx
  go_enter Tryz.func34, Tryz.ntmps34
  go_wp2_with fail
  go_ret
  exact ⟨rfl, rfl⟩
theorem read_none {pc : Prop} (h : TbAt pc w B t p r ps rs m N T us ls) (hk : -9223372036854775808 ≤ k ∧ k ≤ 9223372036854775807) (hx : mapOf T k = none) (hE : w.cell? ⟨1, 0, none⟩ = some (erv E 1)) :
    Calls Tryz.prog 25 #[.pointer (some ⟨t, 0, none⟩), .int .i64 k] w fun e w' => e = .returned (.tuple #[.string ⟨#[]⟩, erv E 1]) ∧ Below w.heap.size w w' := by
  obtain ⟨n, hn, hm⟩ := h.mp
  have hc2 := h.c2
  have hl := hm.look_ok hk
  rw [hx] at hl
  simp only [ptrV, Option.map_none, Option.isSome_none] at hl
  unfold erv at *
  clear h hm hn hx
  go_enter Tryz.func25, Tryz.ntmps25
  go_wp2_with fail
  have hE2 : w.drew.cell? ⟨1, 0, none⟩ = some (.iface 249 (.pointer (some (E 1)))) := hE
  go_quiet (fail)
  go_wp2_with fail
  go_ret2
  exact ⟨rfl, Below.drewN _ _ _⟩
end

/-- What Stat answers. -/
def StPost (x : Ino) (w : World) (e : Ending) (w' : World) : Prop :=
  ∃ a cap, e = .returned (.tuple #[.agg #[.int .i64 (x.data.size : Int), .int .i64 (x.links : Int), .bool x.exec, .slice a x.bl.length cap, .int .u32 (crc x.data.data.toList : Nat)], .bool true]) ∧ Ow (fun g => w.heap.size ≤ g) w' 3 1 (.slice a x.bl.length cap) x.bl.length (ints x.bl) ∧ Below w.heap.size w w'

set_option maxRecDepth 100000 in
set_option maxHeartbeats 2000000 in
theorem stat_ok {pc : Prop} (B t p r ps rs m N : Nat) (T : Nat → Option Ino) (us : List Bool) (ls : List ByteArray) (k : Nat) (x : Ino) (w : World) (h : TbAt pc w B t p r ps rs m N T us ls) (hk : k ≤ 1000000) (hx : T k = some x) :
    Calls Tryz.prog 19 #[.pointer (some ⟨t, 0, none⟩), .int .i64 (k : Int)] w (StPost x w) := by
  obtain ⟨z, hz⟩ : ∃ z, z = w.heap.size := ⟨_, rfl⟩
  have hB1 : Below z w (w.alloc (.cells #[.int .i64 0, .int .i64 0, .bool false, .slice none 0 0, .int .u32 0] 54)) := (Below.refl _ _).alloc (Nat.le_of_eq hz) _
  have h1 := h.ob (hz ▸ hB1)
  have hblk1 := Blk.new w [.int .i64 0, .int .i64 0, .bool false, .slice none 0 0, .int .u32 0] 54
  obtain ⟨n, hn, hm⟩ := h1.mp
  have hc2 := h1.c2
  have hl := hm.look_ok (k := (k : Int)) (by omega)
  rw [show mapOf T (k : Int) = some x.blk by simp [mapOf, hx]] at hl
  simp only [ptrV, Option.map_some, Option.isSome_some] at hl
  have hxa := h1.ino k x hx
  have hxo := h1.ok k x hx
  have hxb := hxa.blk
  have hlen : x.bl.length ≤ 512 := by rw [hxo.len]; have := needN_le _ hxo.size; omega
  unfold inoCells at hxb
  obtain ⟨ba, bcap, hbv⟩ := hxa.row.shape
  have hrow := hxa.row
  rw [hbv] at hxb hrow
  clear hm hxo hxa h1 h hn
  generalize hblx : x.bl = bl at *
  have HBL := hidd hblx
  clear hblx
  generalize x.blk = bx at *
  have b0 := hxb.cell (i := 0) rfl
  have b1 := hxb.cell (i := 1) rfl
  have b2 := hxb.cell (i := 2) rfl
  have b3 := hxb.cell (i := 3) rfl
  have b4 := hxb.cell (i := 4) rfl
  obtain ⟨w1, hw1⟩ : ∃ w1, w1 = w.alloc (.cells #[.int .i64 0, .int .i64 0, .bool false, .slice none 0 0, .int .u32 0] 54) := ⟨_, rfl⟩
  have hsz : w1.heap.size = w.heap.size + 1 := by rw [hw1]; simp
  have b3' := (hxb.alloc (.cells #[.int .i64 (x.data.size : Int), .int .i64 (x.links : Int), .bool x.exec, .slice ba bl.length bcap, .int .u32 (crc x.data.data.toList : Nat)] 54)).cell (i := 3) rfl
  have hq := Blk.new (w.alloc (.cells #[.int .i64 0, .int .i64 0, .bool false, .slice none 0 0, .int .u32 0] 54)) [.int .i64 (x.data.size : Int), .int .i64 (x.links : Int), .bool x.exec, .slice ba bl.length bcap, .int .u32 (crc x.data.data.toList : Nat)] 54
  have hq0 := hblk1.alloc (.cells #[.int .i64 (x.data.size : Int), .int .i64 (x.links : Int), .bool x.exec, .slice ba bl.length bcap, .int .u32 (crc x.data.data.toList : Nat)] 54)
  rw [← hw1, hsz] at hq
  rw [hw1] at hq
  have HB := hidd (hB1.alloc (by simp; omega) (.cells #[.int .i64 (x.data.size : Int), .int .i64 (x.links : Int), .bool x.exec, .slice ba bl.length bcap, .int .u32 (crc x.data.data.toList : Nat)] 54))
  have HZ := hidd hz
  clear hblk1 hxb hsz hw1 hB1
  go_enter Tryz.func19, Tryz.ntmps19
  go_wp2_with fail
  refine (clone_ow _ bl _ (hrow.alloc _) hlen).mono ?_
  rintro e w2 ⟨a, cap, rfl, ho2, hb2⟩
  have hq2 := hq.below hb2 hq.lt
  have hq02 := hq0.below hb2 hq0.lt
  have HB2 := hidd (HB.out.trans (hb2.mono (by have := HZ.out; simp; omega)))
  have HO2 : Hid (Ow (fun g => w.heap.size + 2 ≤ g) w2 3 1 (.slice a bl.length cap) bl.length (ints bl)) := hidd (ho2.mono (fun g hg => by simp at hg; omega))
  clear hb2 hq0 hq b0 b1 b2 b3 b4 b3' hl hc2 hrow ho2 HB
  generalize hq0e : w.heap.size = q0 at *
  have HQ := hidd hq0e
  clear hq0e
  have hf3 := hq2.frozen 3
  have hq3 := hq2.set 3 (.slice a bl.length cap)
  have hq03 := hq02.other (a := ⟨q0 + 1, 3, none⟩) (by simp) (.slice a bl.length cap)
  have c3 := hq2.cell (i := 3) rfl
  have HO3 : Hid (Ow (fun g => q0 + 2 ≤ g) (w2.setCell ⟨q0 + 1, 3, none⟩ (.slice a bl.length cap)) 3 1 (.slice a bl.length cap) bl.length (ints bl)) := hidd (HO2.out.set (a := ⟨q0 + 1, 3, none⟩) (by simp) _)
  have HB3 := hidd (HB2.out.setCell (p := ⟨q0 + 1, 3, none⟩) (by simp; have := HZ.out; omega) (.slice a bl.length cap))
  generalize hw3 : w2.setCell ⟨q0 + 1, 3, none⟩ (.slice a bl.length cap) = w3 at *
  have d0 := hq3.cell (i := 0) rfl
  have d1 := hq3.cell (i := 1) rfl
  have d2 := hq3.cell (i := 2) rfl
  have d3 := hq3.cell (i := 3) rfl
  have d4 := hq3.cell (i := 4) rfl
  have s0 := hq03
  have e0 := s0.cell (i := 0) rfl
  have f0 := s0.frozen 0
  have s1 := s0.set 0 (.int .i64 (x.data.size : Int))
  have e1 := s1.cell (i := 1) rfl
  have f1 := s1.frozen 1
  have s2 := s1.set 1 (.int .i64 (x.links : Int))
  have e2 := s2.cell (i := 2) rfl
  have f2 := s2.frozen 2
  have s3 := s2.set 2 (.bool x.exec)
  have e3 := s3.cell (i := 3) rfl
  have f3 := s3.frozen 3
  have s4 := s3.set 3 (.slice a bl.length cap)
  have e4 := s4.cell (i := 4) rfl
  have f4 := s4.frozen 4
  have s5 := s4.set 4 (.int .u32 (crc x.data.data.toList : Nat))
  have r0 := s5.cell (i := 0) rfl
  have r1 := s5.cell (i := 1) rfl
  have r2 := s5.cell (i := 2) rfl
  have r3 := s5.cell (i := 3) rfl
  have r4 := s5.cell (i := 4) rfl
  go_wp2_with fail
  refine bodyPost_ret (v := .tuple #[.agg #[.int .i64 (x.data.size : Int), .int .i64 (x.links : Int), .bool x.exec, .slice a bl.length cap, .int .u32 (crc x.data.data.toList : Nat)], .bool true]) ?_ rfl ?_
  · rw [results_cell_tmp rfl]
    go_simp
  · unfold StPost
    rw [HBL.out]
    refine ⟨a, cap, rfl, ?_, ?_⟩
    · refine (((((HO3.out.set (a := ⟨q0, 0, none⟩) (by simp) _).set (a := ⟨q0, 1, none⟩) (by simp) _).set (a := ⟨q0, 2, none⟩) (by simp) _).set (a := ⟨q0, 3, none⟩) (by simp) _).set (a := ⟨q0, 4, none⟩) (by simp) _).mono (fun g hg => by rw [HQ.out]; omega)
    · rw [show w.heap.size = z from HQ.out.trans HZ.out.symm]
      exact ((((HB3.out.setCell (p := ⟨q0, 0, none⟩) (Nat.le_of_eq HZ.out) _).setCell (p := ⟨q0, 1, none⟩) (Nat.le_of_eq HZ.out) _).setCell (p := ⟨q0, 2, none⟩) (Nat.le_of_eq HZ.out) _).setCell (p := ⟨q0, 3, none⟩) (Nat.le_of_eq HZ.out) _).setCell (p := ⟨q0, 4, none⟩) (Nat.le_of_eq HZ.out) _
end Go.Proofs.YtoemahhpheobkaaGreatDoor

namespace Go.Proofs.YtoemahhpheobkaaGreatDoor
open Go.RowKit

theorem cells_pcs (d : ByteArray) (j : Nat) : Lib.byteCells (pcs d.data.toList (j + 1)) = Lib.byteCells (pcs d.data.toList j) ++ Lib.strCells (pcB d j) := by
  rw [pcs, Lib.strCells_eq, pcB_list]
  unfold Lib.byteCells
  rw [List.map_append]

theorem bat_ob {T e : TypeId} {B b : Nat} {p : Value} {bs : List Value} {w w' : World} (h : Lib.BuilderAt T e B b p bs w) (hf : Below w.heap.size w w') : Lib.BuilderAt T e B b p bs w' := by
  have hlt := h.lt
  obtain ⟨hB, v, hb, ho, hn⟩ := h
  exact ⟨hB, v, (hf.block b hlt).trans hb, (Fr.ob (S := fun _ => False) hf).owns ho (fun _ _ x => x), hn⟩
theorem isb_ob {T e : TypeId} {B b : Nat} {bs : List Value} {w w' : World} (h : Lib.IsBuilder T e B b bs w) (hf : Below w.heap.size w w') : Lib.IsBuilder T e B b bs w' := by
  rcases h with h | h
  · exact .inl (bat_ob h hf)
  · exact .inr (bat_ob h hf)

/-- What Read answers. -/
def RdPost (x : Ino) (w : World) (e : Ending) (w' : World) : Prop := e = .returned (.tuple #[.string x.data, .nilIface]) ∧ Below w.heap.size w w'

set_option maxRecDepth 100000 in
set_option maxHeartbeats 4000000 in
theorem iread_ok {pc : Prop} (B t p r ps rs m N : Nat) (T : Nat → Option Ino) (us : List Bool) (ls : List ByteArray) (k : Nat) (x : Ino) (w : World) (h : TbAt pc w B t p r ps rs m N T us ls) (hk : k ≤ 1000000) (hx : T k = some x) (hpc : pc) :
    Calls Tryz.prog 25 #[.pointer (some ⟨t, 0, none⟩), .int .i64 (k : Int)] w (RdPost x w) := by
  obtain ⟨n, hn, hm⟩ := h.mp
  have hc2 := h.c2
  have hl := hm.look_ok (k := (k : Int)) (by omega)
  rw [show mapOf T (k : Int) = some x.blk by simp [mapOf, hx]] at hl
  simp only [ptrV, Option.map_some, Option.isSome_some] at hl
  have hxa := h.ino k x hx
  have hxo := h.ok k x hx
  obtain ⟨ba, bcap, hbv⟩ := hxa.row.shape
  have hB1 : Below w.heap.size w (w.alloc (.cells #[.pointer none, .slice none 0 0] 116)) := (Below.refl _ _).alloc (Nat.le_refl _) _
  have hz := World.block_lt_of_cell? w _ hc2
  have hblt := hxa.blk.lt
  -- what holds in each later world
  have HT : Hid (∀ W, Below w.heap.size w W → TbAt pc W B t p r ps rs m N T us ls) := hidd (fun W hW => h.ob hW)
  have HX : Hid (∀ W, Below w.heap.size w W → W.cell? ⟨x.blk, 0, none⟩ = some (.int .i64 (x.data.size : Int)) ∧ W.cell? ⟨x.blk, 3, none⟩ = some (.slice ba x.bl.length bcap) ∧ W.cell? ⟨x.blk, 4, none⟩ = some (.int .u32 (crc x.data.data.toList : Nat)) ∧ Sl W (.slice ba x.bl.length bcap) (ints x.bl) x.bl.length 1) := hidd (fun W hW => by
    have hy := (h.ob hW).ino k x hx
    refine ⟨hy.blk.cell rfl, ?_, hy.blk.cell rfl, ?_⟩
    · rw [← hbv]; exact hy.blk.cell rfl
    · rw [← hbv]; exact hy.row.sl)
  have hisb : Lib.IsBuilder 116 5 w.heap.size w.heap.size (Lib.byteCells (pcs x.data.data.toList 0)) (w.alloc (.cells #[.pointer none, .slice none 0 0] 116)) :=
    .inl ⟨Nat.le_refl _, .slice none 0 0, heap_alloc_new w _, World.ownsRow_nil _ _ _ _, by simp [Value.ownBlock]⟩
  obtain ⟨x0, x3, x4, xs⟩ := HX.out _ hB1
  have HLEN := hidd hxo.len
  have HPC := hidd (hxo.pcs hpc)
  have HINR := hidd hxo.inr
  have hdsz := hxo.size
  have hbl5 : x.bl.length ≤ 125 := by rw [hxo.len]; exact needN_le _ hxo.size
  obtain ⟨S, hS⟩ : ∃ S : ByteArray, S = ⟨(pcs x.data.data.toList x.bl.length).toArray⟩ := ⟨_, rfl⟩
  have hSs : S.size = 16 * x.bl.length := by rw [Lib.size_eq, hS]; simp [pcs_len]
  have hSx : S.extract 0 x.data.size = x.data := Go.WideShapes.bytes_inj (by
    rw [Lib.extract_from_zero, hS]
    have := pcs_need x.data.data.toList
    rw [← Lib.size_eq, ← hxo.len] at this
    simpa using this)
  have hle : x.data.size ≤ S.size := by rw [hSs, hxo.len]; exact needN_hi _
  have HSTR : Hid (∀ W, Lib.IsBuilder 116 5 w.heap.size w.heap.size (Lib.byteCells (pcs x.data.data.toList x.bl.length)) W → w.heap.size ≤ W.heap.size → Calls Tryz.prog 53 #[.pointer (some ⟨w.heap.size, 0, none⟩)] W fun e w' => e = .returned (.string S) ∧ Below w.heap.size W w') := hidd (fun W hi hsz => by
    rw [hS]; exact Tryz.Builder_String_any _ _ _ W hi hsz)
  have HSS := hidd hSs
  have HSX := hidd hSx
  clear hm hn hxo hxa h hS hSs hSx hbv
  generalize hbx : x.blk = bx at *
  generalize hbl : x.bl = bl at *
  clear hbx hbl
  go_enter Tryz.func25, Tryz.ntmps25
  go_wp2_with fail
  go_loopw [31] (fun i wr => ∃ j : Nat, j ≤ bl.length ∧ i = .int .i64 (j : Int) ∧ Lib.IsBuilder 116 5 w.heap.size w.heap.size (Lib.byteCells (pcs x.data.data.toList j)) wr ∧ Below w.heap.size w wr) (fun i _ => bl.length - (intOf i).toNat)
  case atStart => exact ⟨0, Nat.zero_le _, rfl, hisb, hB1⟩
  case round =>
    obtain ⟨j, hj, rfl, hib, hbw⟩ := hrel
    by_cases hlt : j < bl.length
    · obtain ⟨y0, y3, y4, ys⟩ := HX.out _ hbw
      obtain ⟨sb, so, rfl, -, hc, hcell⟩ := ys.at1 hlt
      rw [show (ints bl)[j] = .int .i64 ((bl[j] : Nat) : Int) by simp [ints]] at hcell
      have hk := HINR.out _ (List.getElem_mem hlt)
      have hg : bl.getD j 0 = bl[j] := by rw [List.getD_eq_getElem?_getD, List.getElem?_eq_getElem hlt]; rfl
      have HP := hidd (HPC.out j hlt)
      rw [hg] at HP
      have htb := HT.out _ hbw
      have hc0 := htb.c0
      have q1 : (0 : Int) ≤ (j : Int) := by omega
      have q2 : (j : Int) < (bl.length : Int) := by omega
      have hszw := hbw.size
      generalize bl[j] = kk at *
      clear hg hc y0 y3 y4
      go_wp2_with fail
      refine (read_ok p r _ ls [] kk _ htb.dk hk).mono ?_
      rw [show rdW [] kk (ls.getD kk ByteArray.empty) = pcB x.data j from HP.out]
      rintro e w3 ⟨rfl, hb3⟩
      have hib3 := isb_ob hib hb3
      have hbw3 := hbw.trans (hb3.mono hszw)
      have hsz3 := hbw3.size
      have hl16 : (Lib.byteCells (pcs x.data.data.toList j)).length = 16 * j := by simp [Lib.byteCells, pcs_len]
      have HL16 := hidd hl16
      have HPS := hidd (pcB_size x.data j)
      clear hl16 htb hb3 hib
      go_wp2_with fail
      refine (wstr_any w.heap.size w.heap.size _ (pcB x.data j) w3 hib3 (by rw [HL16.out, HPS.out]; omega) hsz3).mono ?_
      rintro e w4 ⟨rfl, hb4, hbel4⟩
      go_wp2_with fail
      go_roundw
      case rel =>
        refine ⟨j + 1, by omega, by go_num, .inr ?_, hbw3.trans hbel4⟩
        rw [show Lib.byteCells (pcs x.data.data.toList (j + 1)) = Lib.byteCells (pcs x.data.data.toList j) ++ Lib.strCells (pcB x.data j) from cells_pcs x.data j]
        exact hb4
      case measure => simp [intOf]; omega
    · obtain rfl : j = bl.length := by omega
      have hq : ¬ ((bl.length : Int) < (bl.length : Int)) := by omega
      have HC : Hid (∀ W, Below w.heap.size wr W → W.cell? ⟨bx, 0, none⟩ = some (.int .i64 (x.data.size : Int)) ∧ Below w.heap.size w W) := hidd (fun W hW => ⟨(HX.out _ (hbw.trans hW)).1, hbw.trans hW⟩)
      have hstr := HSTR.out wr.drew hib hbw.size
      clear hlt
      go_wp2_with fail
      have hle0 : (0 : Int) ≤ (x.data.size : Int) := by omega
      have hle1 : (x.data.size : Int) ≤ (S.size : Int) := by omega
      have hsx := HSX.out
      have HDZ := hidd hdsz
      clear hdsz hib hisb xs x0 x3 x4 hl
      go_region_held3 (fun W => W.cell? ⟨bx, 0, none⟩ = some (.int .i64 (x.data.size : Int)) ∧ Below w.heap.size w W)
        (first | exact HC.out _ ((Below.refl _ wr).drew) | exact HC.out _ ((Below.refl _ wr).drew.trans hb9))
        (first | (go_at_call 53; refine hstr.mono ?_; rintro e w9 ⟨rfl, hb9⟩))
      go_wp2_with fail
      have hb10 : Below w.heap.size w w9 := hbw.trans (((Below.refl w.heap.size wr).drew).trans hb9)
      obtain ⟨z0, z3, z4, zs⟩ := HX.out w9 hb10
      clear z0 z3 zs
      have hcr : ((crc x.data.data.toList : Nat) : Int) = ((crc x.data.data.toList : Nat) : Int) := rfl
      have k4 : w9.drew.cell? ⟨bx, 4, none⟩ = some (.int .u32 (crc x.data.data.toList : Nat)) := z4
      go_region_held3 (fun W => W.cell? ⟨bx, 4, none⟩ = some (.int .u32 (crc x.data.data.toList : Nat)) ∧ W = w9.drew)
        (first | exact ⟨k4, rfl⟩)
        (first | (go_at_call 54; refine (sum_any x.data _ (by have := HDZ.out; unfold maxLen; omega)).mono ?_; rintro e w8 ⟨rfl, rfl⟩))
      go_wp2_with fail
      go_ret2
      exact ⟨rfl, hb10.drew⟩
end Go.Proofs.YtoemahhpheobkaaGreatDoor
