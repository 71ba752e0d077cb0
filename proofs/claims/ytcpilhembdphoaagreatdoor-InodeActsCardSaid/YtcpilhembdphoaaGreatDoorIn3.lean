/- An inode table between calls; Link, Unlink, Stat. Condition: the table is one that New gave. -/
import Derived.Test.YtcpilhembdphoaaGreatDoorIn2
import Derived.Test.YtcpilhembdphoaaGreatDoorSkP
import Derived.Test.YtcpilhembdphoaaGreatDoorEnv
import Derived.Test.YtcpilhembdphoaaGreatDoorSum
namespace Go.Proofs.YtcpilhembdphoaaGreatDoor
open Go.RowKit

/-- An inode: its text, its links, its blocks; where it lies, where its list of blocks lies. -/
structure Ino where
  data : ByteArray
  exec : Bool
  links : Nat
  bl : List Nat
  blk : Nat
  bv : Value
def inoCells (x : Ino) : List Value := [.int .i64 (x.data.size : Int), .int .i64 (x.links : Int), .bool x.exec, x.bv, .int .u32 (crc x.data.data.toList : Nat)]
structure InoAt (w : World) (x : Ino) : Prop where
  blk : Blk w x.blk (inoCells x) 34
  row : Ow (fun _ => True) w 3 1 x.bv x.bl.length (ints x.bl)
/-- What its list says of the disk. -/
structure InoOk (pc : Prop) (N : Nat) (ls : List ByteArray) (x : Ino) : Prop where
  pos : 1 ≤ x.links
  big : x.links ≤ N
  len : x.bl.length = needN x.data.size
  nod : x.bl.Nodup
  inr : ∀ b ∈ x.bl, b < ls.length
  pcs : pc → ∀ i, i < x.bl.length → ls.getD (x.bl.getD i 0) ByteArray.empty = pcB x.data i
  size : x.data.size ≤ 2000

theorem blk_ne {w : World} {b c : Nat} {cs ds : List Value} {S T : TypeId} (h : Blk w b cs S) (k : Blk w c ds T) (hn : S ≠ T) : b ≠ c := by
  rintro rfl
  unfold Blk at h k
  rw [h] at k
  injection k with k
  injection k with _ k
  exact hn k
theorem own_ne {F : Nat → Prop} {w : World} {v : Value} {n : Nat} {xs : List Value} {S : TypeId} {size : Nat} (h : Ow F w S size v n xs) {b : Nat} {cs : List Value} {T : TypeId} (k : Blk w b cs T) (hn : S ≠ T) : v.ownBlock ≠ some b := by
  rcases h.2 with ⟨rfl, -⟩ | ⟨g, o, cap, cur, rfl, -, hg, -⟩
  · simp [Value.ownBlock]
  · simp only [Value.ownBlock, ne_eq, Option.some.injEq]
    rintro rfl
    unfold Blk at k
    rw [hg] at k
    injection k with k
    injection k with _ k
    exact hn k
theorem own_ne_map {F : Nat → Prop} {w : World} {v : Value} {n : Nat} {xs : List Value} {S : TypeId} {size : Nat} (h : Ow F w S size v n xs) {m N : Nat} {f : Int → Option Nat} (k : MapIs w m N f) : v.ownBlock ≠ some m := by
  rcases h.2 with ⟨rfl, -⟩ | ⟨g, o, cap, cur, rfl, -, hg, -⟩
  · simp [Value.ownBlock]
  · simp only [Value.ownBlock, ne_eq, Option.some.injEq]
    rintro rfl
    obtain ⟨D, ⟨es, clock, hh, -⟩, -⟩ := k
    rw [hg] at hh
    cases hh

/-- What the map holds. -/
def mapOf (T : Nat → Option Ino) (k : Int) : Option Nat := if 0 ≤ k then (T k.toNat).map Ino.blk else none

/-- A table: where its parts lie, its inodes. -/
structure TbAt (pc : Prop) (w : World) (B t p r ps rs m N : Nat) (T : Nat → Option Ino) (us : List Bool) (ls : List ByteArray) : Prop where
  tab : Blk w t [.pointer (some ⟨p, 0, none⟩), .pointer (some ⟨ps, 0, none⟩), .map (some m)] 68
  dk : DkAt w p r (.slice none 0 0) ls []
  sp : SpAt w ps rs us
  mp : ∃ n, n ≤ N ∧ MapIs w m n (mapOf T)
  ino : ∀ k x, T k = some x → InoAt w x
  ok : ∀ k x, T k = some x → InoOk pc N ls x
  inj : ∀ k l x y, T k = some x → T l = some y → k ≠ l → x.blk ≠ y.blk
  dis : ∀ k l x y, T k = some x → T l = some y → k ≠ l → ∀ b ∈ x.bl, b ∉ y.bl
  usd : ∀ b, us.getD b false = true ↔ ∃ k x, T k = some x ∧ b ∈ x.bl
  len : us.length = ls.length
  fin : ∃ K, K ≤ N ∧ ∀ k, K ≤ k → T k = none
  base : B ≤ p ∧ B ≤ r ∧ B ≤ ps ∧ B ≤ rs ∧ B ≤ m ∧ B ≤ t
  bases : ∀ k x, T k = some x → B ≤ x.blk
/-- The blocks that an act on a table may turn. -/
def tbS (p r rs m : Nat) (T : Nat → Option Ino) (b : Nat) : Prop := b = p ∨ b = r ∨ b = rs ∨ b = m ∨ ∃ k x, T k = some x ∧ b = x.blk

section
variable {pc : Prop} {w w' : World} {B t p r ps rs m N : Nat} {T : Nat → Option Ino} {us : List Bool} {ls : List ByteArray}
theorem InoAt.fr {S : Nat → Prop} {x : Ino} (h : InoAt w x) (hf : Fr S w w') (hb : ¬ S x.blk) (hv : ∀ k, x.bv.ownBlock = some k → ¬ S k) : InoAt w' x := ⟨h.blk.fr hf hb, h.row.fr hf hv⟩
theorem InoAt.ob {x : Ino} (h : InoAt w x) (hf : Below w.heap.size w w') : InoAt w' x := ⟨h.blk.below hf h.blk.lt, h.row.ob hf⟩
theorem TbAt.ob {pc : Prop} (h : TbAt pc w B t p r ps rs m N T us ls) (hf : Below w.heap.size w w') : TbAt pc w' B t p r ps rs m N T us ls :=
  { h with tab := h.tab.below hf h.tab.lt, dk := h.dk.ob hf (Nat.le_refl _), sp := h.sp.ob hf (Nat.le_refl _), mp := by obtain ⟨n, hn, hm⟩ := h.mp; exact ⟨n, hn, hm.ob hf (Nat.le_refl _)⟩, ino := fun k x hx => (h.ino k x hx).ob hf }
theorem TbAt.more {pc : Prop} (h : TbAt pc w B t p r ps rs m N T us ls) {N' : Nat} (hN : N ≤ N') : TbAt pc w B t p r ps rs m N' T us ls :=
  { h with mp := by obtain ⟨n, hn, hm⟩ := h.mp; exact ⟨n, Nat.le_trans hn hN, hm⟩, ok := fun k x hx => { h.ok k x hx with big := Nat.le_trans (h.ok k x hx).big hN }, fin := by obtain ⟨K, hK, h⟩ := h.fin; exact ⟨K, Nat.le_trans hK hN, h⟩ }
theorem TbAt.apart {pc : Prop} (h : TbAt pc w B t p r ps rs m N T us ls) {F : Nat → Prop} {v : Value} {n : Nat} {xs : List Value} (ho : Ow F w 3 1 v n xs) : ∀ k, v.ownBlock = some k → ¬ tbS p r rs m T k := by
  rintro k hk (rfl | rfl | rfl | rfl | ⟨l, x, hx, rfl⟩)
  · exact own_ne ho h.dk.head (by decide) hk
  · exact own_ne ho h.dk.row (by decide) hk
  · exact own_ne ho h.sp.row (by decide) hk
  · obtain ⟨n, -, hm⟩ := h.mp; exact own_ne_map ho hm hk
  · exact own_ne ho (h.ino l x hx).blk (by decide) hk
theorem TbAt.tabN {pc : Prop} (h : TbAt pc w B t p r ps rs m N T us ls) : ¬ tbS p r rs m T t := by
  rintro (e | e | e | e | ⟨l, x, hx, e⟩)
  · exact blk_ne h.tab h.dk.head (by decide) e
  · exact blk_ne h.tab h.dk.row (by decide) e
  · exact blk_ne h.tab h.sp.row (by decide) e
  · obtain ⟨n, -, hm⟩ := h.mp; exact hm.ne_blk h.tab e.symm
  · exact blk_ne h.tab (h.ino l x hx).blk (by decide) e
theorem TbAt.baseS {pc : Prop} (h : TbAt pc w B t p r ps rs m N T us ls) : ∀ b, tbS p r rs m T b → B ≤ b := by
  rintro b (rfl | rfl | rfl | rfl | ⟨l, x, hx, rfl⟩)
  · exact h.base.1
  · exact h.base.2.1
  · exact h.base.2.2.2.1
  · exact h.base.2.2.2.2.1
  · exact h.bases l x hx
theorem TbAt.c0 {pc : Prop} (h : TbAt pc w B t p r ps rs m N T us ls) : w.cell? ⟨t, 0, none⟩ = some (.pointer (some ⟨p, 0, none⟩)) := h.tab.cell rfl
theorem TbAt.c1 {pc : Prop} (h : TbAt pc w B t p r ps rs m N T us ls) : w.cell? ⟨t, 1, none⟩ = some (.pointer (some ⟨ps, 0, none⟩)) := h.tab.cell rfl
theorem TbAt.c2 {pc : Prop} (h : TbAt pc w B t p r ps rs m N T us ls) : w.cell? ⟨t, 2, none⟩ = some (.map (some m)) := h.tab.cell rfl
def upd (T : Nat → Option Ino) (k : Nat) (o : Option Ino) (i : Nat) : Option Ino := if i = k then o else T i
theorem upd_same (T : Nat → Option Ino) (k : Nat) (o : Option Ino) : upd T k o k = o := by simp [upd]
theorem upd_other (T : Nat → Option Ino) (k : Nat) (o : Option Ino) {i : Nat} (h : i ≠ k) : upd T k o i = T i := by simp [upd, h]
theorem mapOf_upd (T : Nat → Option Ino) (k : Nat) (o : Option Ino) : mapOf (upd T k o) = fun i => if i = (k : Int) then o.map Ino.blk else mapOf T i := by
  funext i
  unfold mapOf upd
  by_cases e : i = (k : Int)
  · subst e; simp
  · rw [if_neg e]
    by_cases h0 : 0 ≤ i
    · rw [if_pos h0, if_pos h0, if_neg (by omega)]
    · rw [if_neg h0, if_neg h0]
/-- The same table where one inode's links are others. -/
theorem TbAt.relink {pc : Prop} (h : TbAt pc w B t p r ps rs m N T us ls) {k : Nat} {x : Ino} (hx : T k = some x) (l : Nat) (h1 : 1 ≤ l) (h2 : l ≤ N + 1) (hf : Fr (fun b => b = x.blk) w w') (hb : Blk w' x.blk (inoCells { x with links := l }) 34) :
    TbAt pc w' B t p r ps rs m (N + 1) (upd T k (some { x with links := l })) us ls := by
  have hS : ∀ b, (b = x.blk) → tbS p r rs m T b := fun b hb => .inr (.inr (.inr (.inr ⟨k, x, hx, hb⟩)))
  have hxa := h.ino k x hx
  have hxo := h.ok k x hx
  have key : ∀ i y, upd T k (some { x with links := l }) i = some y → ∃ y0, T i = some y0 ∧ y.bl = y0.bl ∧ y.blk = y0.blk ∧ y.data = y0.data ∧ y.bv = y0.bv := by
    intro i y hy
    by_cases e : i = k
    · subst e; rw [upd_same] at hy; cases hy; exact ⟨x, hx, rfl, rfl, rfl, rfl⟩
    · rw [upd_other _ _ _ e] at hy; exact ⟨y, hy, rfl, rfl, rfl, rfl⟩
  have hm1 : mapOf (upd T k (some { x with links := l })) = mapOf T := by
    rw [mapOf_upd]
    funext i
    by_cases e : i = (k : Int)
    · subst e; simp [mapOf, hx]
    · rw [if_neg e]
  refine { h with
    tab := h.tab.fr hf (fun e => blk_ne h.tab hxa.blk (by decide) e)
    dk := h.dk.fr hf (by rintro b (rfl | rfl | hb') e; exact blk_ne h.dk.head hxa.blk (by decide) e; exact blk_ne h.dk.row hxa.blk (by decide) e; simp [Value.ownBlock] at hb')
    sp := h.sp.fr hf (fun e => blk_ne h.sp.head hxa.blk (by decide) e) (fun e => blk_ne h.sp.row hxa.blk (by decide) e)
    mp := by
      obtain ⟨n, hn, hm⟩ := h.mp
      rw [hm1]
      exact ⟨n, by omega, hm.fr hf (fun e => hm.ne_blk hxa.blk e)⟩
    ino := fun i y hy => ?_
    ok := fun i y hy => ?_
    inj := fun i j y z hy hz hij => ?_
    dis := fun i j y z hy hz hij b hb => ?_
    usd := fun b => ?_
    fin := ?_
    bases := fun i y hy => ?_ }
  · by_cases e : i = k
    · subst e; rw [upd_same] at hy; cases hy
      exact ⟨hb, hxa.row.fr hf (fun g hg e => own_ne hxa.row hxa.blk (by decide) (e ▸ hg))⟩
    · rw [upd_other _ _ _ e] at hy
      have hy' := h.ino i y hy
      exact hy'.fr hf (fun e' => h.inj i k y x hy hx e e') (fun g hg e => own_ne hy'.row hxa.blk (by decide) (e ▸ hg))
  · by_cases e : i = k
    · subst e; rw [upd_same] at hy; cases hy
      exact { hxo with pos := h1, big := h2 }
    · rw [upd_other _ _ _ e] at hy
      exact { h.ok i y hy with big := by have := (h.ok i y hy).big; omega }
  · obtain ⟨y0, g1, g2, g3, g4⟩ := key i y hy
    obtain ⟨z0, k1, k2, k3, k4⟩ := key j z hz
    rw [g3, k3]
    exact h.inj i j y0 z0 g1 k1 hij
  · obtain ⟨y0, g1, g2, g3, g4⟩ := key i y hy
    obtain ⟨z0, k1, k2, k3, k4⟩ := key j z hz
    rw [k2]
    exact h.dis i j y0 z0 g1 k1 hij b (g2 ▸ hb)
  · rw [h.usd b]
    constructor
    · rintro ⟨i, y, hy, hb⟩
      by_cases e : i = k
      · subst e; rw [hx] at hy; cases hy; exact ⟨i, _, upd_same _ _ _, hb⟩
      · exact ⟨i, y, by rw [upd_other _ _ _ e]; exact hy, hb⟩
    · rintro ⟨i, y, hy, hb⟩
      obtain ⟨y0, g1, g2, g3, g4⟩ := key i y hy
      exact ⟨i, y0, g1, g2 ▸ hb⟩
  · obtain ⟨K, hK, hf⟩ := h.fin
    refine ⟨K, by omega, fun i hi => ?_⟩
    rw [upd_other _ _ _ (by rintro rfl; rw [hf _ hi] at hx; cases hx)]
    exact hf i hi
  · obtain ⟨y0, g1, g2, g3, g4⟩ := key i y hy
    rw [g3]
    exact h.bases i y0 g1
end

/-- One link more. -/
def LkPost (pc : Prop) (B t p r ps rs m N : Nat) (T : Nat → Option Ino) (us : List Bool) (ls : List ByteArray) (k : Nat) (x : Ino) (l : Nat) (w : World) (e : Ending) (w' : World) : Prop :=
  e = .returned .nilIface ∧ TbAt pc w' B t p r ps rs m (N + 1) (upd T k (some { x with links := l })) us ls ∧ Fr (tbS p r rs m T) w w'

set_option maxHeartbeats 2000000 in
theorem link_ok {pc : Prop} (B t p r ps rs m N : Nat) (T : Nat → Option Ino) (us : List Bool) (ls : List ByteArray) (k : Nat) (x : Ino) (w : World) (h : TbAt pc w B t p r ps rs m N T us ls) (hN : N ≤ 1000000) (hk : k ≤ 1000000) (hx : T k = some x) :
    Calls Tryz.prog 39 #[.pointer (some ⟨t, 0, none⟩), .int .i64 (k : Int)] w (LkPost pc B t p r ps rs m N T us ls k x (x.links + 1) w) := by
  obtain ⟨n, hn, hm⟩ := h.mp
  have hc2 := h.c2
  have hl := hm.look_ok (k := (k : Int)) (by omega)
  rw [show mapOf T (k : Int) = some x.blk by simp [mapOf, hx]] at hl
  simp only [ptrV, Option.map_some, Option.isSome_some] at hl
  have hxa := h.ino k x hx
  have hxb := hxa.blk
  have hb1 := hxb.cell (i := 1) (v := .int .i64 (x.links : Int)) rfl
  have hf1 := hxb.frozen 1
  have hbig := (h.ok k x hx).big
  have hwr : IntKind.i64.wrap ((x.links : Int) + 1) = ((x.links + 1 : Nat) : Int) := by rw [i64_in _ (by omega)]; omega
  have hrl := h.relink hx (x.links + 1) (by omega) (by omega) (w' := w.setCell ⟨x.blk, 1, none⟩ (.int .i64 ((x.links + 1 : Nat) : Int))) ((Fr.refl (fun b => b = x.blk) w).setCell (p := ⟨x.blk, 1, none⟩) (.inl rfl) _) (hxb.set 1 (.int .i64 ((x.links + 1 : Nat) : Int)))
  have hfr : Fr (tbS p r rs m T) w (w.setCell ⟨x.blk, 1, none⟩ (.int .i64 ((x.links + 1 : Nat) : Int))) := (Fr.refl (tbS p r rs m T) w).setCell (p := ⟨x.blk, 1, none⟩) (.inl (.inr (.inr (.inr (.inr ⟨k, x, hx, rfl⟩))))) _
  have HP : Hid (LkPost pc B t p r ps rs m N T us ls k x (x.links + 1) w (.returned .nilIface) (w.setCell ⟨x.blk, 1, none⟩ (.int .i64 ((x.links + 1 : Nat) : Int)))) := hidd ⟨rfl, hrl, hfr⟩
  clear hrl hfr hxa hxb h hm hn
  generalize x.blk = bx at *
  generalize x.links = lk at *
  go_enter Tryz.func39, Tryz.ntmps39
  go_wp2_with fail
  go_ret
  exact HP
end Go.Proofs.YtcpilhembdphoaaGreatDoor
