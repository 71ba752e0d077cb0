/- The contracts of the reader's dir and node. Condition: the reader is there, the variables read as listed. -/
import Derived.Test.YtoaedkinlnkkhaaDoorPk1
import Derived.Test.YtoaedkinlnkkhaaDoorTrC
import Derived.Deep.Cut
namespace Go.Proofs.YtoaedkinlnkkhaaDoor
open Go.RowKit

theorem Blk.set4 {w : World} {p : Nat} {c0 c1 c2 c3 x0 x1 x2 x3 : Value} {T : TypeId} (h : Blk w p [c0, c1, c2, c3] T) :
    Blk ((((w.setCell ⟨p, 0, none⟩ x0).setCell ⟨p, 1, none⟩ x1).setCell ⟨p, 2, none⟩ x2).setCell ⟨p, 3, none⟩ x3) p [x0, x1, x2, x3] T :=
  (((h.set 0 x0).set 1 x1).set 2 x2).set 3 x3
theorem Fr.set4 {S : Nat → Prop} {a w : World} (h : Fr S a w) {p : Nat} (hp : S p ∨ a.heap.size ≤ p) (x0 x1 x2 x3 : Value) :
    Fr S a ((((w.setCell ⟨p, 0, none⟩ x0).setCell ⟨p, 1, none⟩ x1).setCell ⟨p, 2, none⟩ x2).setCell ⟨p, 3, none⟩ x3) :=
  (((h.setCell (p := ⟨p, 0, none⟩) hp x0).setCell (p := ⟨p, 1, none⟩) hp x1).setCell (p := ⟨p, 2, none⟩) hp x2).setCell (p := ⟨p, 3, none⟩) hp x3

/-- What a reader's node says and leaves. -/
def NdPost (E : Nat → Addr) (X : Got) (p : Nat) (w : World) (e : Ending) (w' : World) : Prop :=
  (match X with
   | .error n => ∃ (k d : ByteArray) (x : Bool) (a : Option Addr) (m cap g : Nat), e = .returned (.tuple #[.agg #[.string k, .string d, .bool x, .slice a m cap], erv E g]) ∧ erv E g = evc E n
   | .ok (x, c, r) => ∃ (kd da : ByteArray) (ex : Bool) (a : Option Addr) (cap : Nat) (ks : List (ByteArray × Lt)), e = .returned (.tuple #[.agg #[.string kd, .string da, .bool ex, .slice a ks.length cap], .nilIface]) ∧
      (Tr.mk kd da ex (.slice a ks.length cap) ks : Lt).bare = x ∧ (Tr.mk kd da ex (.slice a ks.length cap) ks : Lt).Ok w' ∧ (Tr.mk kd da ex (.slice a ks.length cap) ks : Lt).In (fun b => w.heap.size ≤ b ∧ b < w'.heap.size) ∧ RdAt w' p (bstr r) c) ∧ Fr (fun b => b = p) w w'

theorem nd_err {E : Nat → Addr} {X : Got} {p : Nat} {w w' : World} {n g m cap : Nat} {k d : ByteArray} {x : Bool} {a : Option Addr} (hX : X = .error n) (hg : erv E g = evc E n) (hF : Fr (fun b => b = p) w w') :
    NdPost E X p w (.returned (.tuple #[.agg #[.string k, .string d, .bool x, .slice a m cap], erv E g])) w' := by
  subst hX
  exact ⟨⟨k, d, x, a, m, cap, g, rfl, hg⟩, hF⟩

/-- What stands while dir goes. -/
structure DrI (g : Nat → List UInt8 → Got) (n c0 : Nat) (l0 : List UInt8) (w : World) (p i : Nat) (ls : List (ByteArray × Lt)) (v : Value) (S : ByteArray) (c : Nat) (W : World) : Prop where
  bz : Blk W w.heap.size [.string ⟨#[]⟩, .string ⟨#[]⟩, .bool false, .slice none 0 0] 24
  bn : Blk W (w.heap.size + 1) [.string ⟨#[100, 105, 114]⟩, .string ⟨#[]⟩, .bool false, v] 24
  rd : RdAt W p S c
  ow : Ow (fun g => w.heap.size + 2 ≤ g) W 48 5 v ls.length (kcells ls)
  ok : Oks W ls
  ins : InS (fun b => w.heap.size + 2 ≤ b ∧ b < W.heap.size ∧ v.ownBlock ≠ some b) ls
  nm : ∀ x ∈ ls, x.1.size ≤ 140737488351232
  fr : Fr (fun b => b = p) w W
  st : kidsP g n c0 l0 = preK (ls.map fun x => (x.1, x.2.bare)) (kidsP g (n - i) c S.data.toList)
  hi : i ≤ n
  hl : ls.length = i
  hs : S.size ≤ 4000000
  hc : c ≤ 200

/-- What stands behind a kid's call, and behind the append. -/
theorem dr_mid {g : Nat → List UInt8 → Got} {n c0 : Nat} {l0 : List UInt8} {w : World} {p i : Nat} {ls : List (ByteArray × Lt)} {v : Value} {S : ByteArray} {c : Nat} {wr w2 w3 : World} (hI : DrI g n c0 l0 w p i ls v S c wr) (hp : p < w.heap.size)
    (hf2 : Fr (fun b => b = p) wr w2) (hf3 : Fr (fun b => b = p) w2 w3) (o : Obj) :
    Blk (w3.alloc o) w.heap.size [.string ⟨#[]⟩, .string ⟨#[]⟩, .bool false, .slice none 0 0] 24 ∧ Blk (w3.alloc o) (w.heap.size + 1) [.string ⟨#[100, 105, 114]⟩, .string ⟨#[]⟩, .bool false, v] 24 ∧
    Ow (fun g => w.heap.size + 2 ≤ g) (w3.alloc o) 48 5 v ls.length (kcells ls) ∧ Oks (w3.alloc o) ls ∧ Fr (fun b => b = p) w (w3.alloc o) ∧ Fr (fun b => b = p) wr (w3.alloc o) := by
  have hF : Fr (fun b => b = p) wr (w3.alloc o) := (hf2.trans hf3).alloc o
  exact ⟨hI.bz.fr hF (by omega), hI.bn.fr hF (by omega), hI.ow.frF hF (fun k hk e => by omega), oks_fr hF ls hI.ok (inS_mono (fun b hb e => by omega) ls hI.ins), hI.fr.trans hF, hF⟩

theorem dr_step {g : Nat → List UInt8 → Got} {n c0 : Nat} {l0 : List UInt8} {w : World} {p i : Nat} {ls : List (ByteArray × Lt)} {v v' : Value} {S : ByteArray} {c : Nat} {wr w2 w3 w5 : World} (hI : DrI g n c0 l0 w p i ls v S c wr) (hp : p < w.heap.size)
    (hf2 : Fr (fun b => b = p) wr w2) (hf3 : Fr (fun b => b = p) w2 w3) {s : ByteArray} {t : Lt} {r2 : List UInt8} {c2 : Nat} {o o2 : Obj}
    (hok : t.Ok w3) (hin : t.In (fun b => w2.heap.size ≤ b ∧ b < w3.heap.size)) (h3 : RdAt w3 p (bstr r2) c2) (hlt : i < n) (hs : s.size ≤ 4000000) (hr2 : r2.length ≤ 4000000) (hc2 : c2 ≤ 200)
    (hst : kidsP g n c0 l0 = preK (ls.map fun x => (x.1, x.2.bare)) (preK [(s, t.bare)] (kidsP g (n - (i + 1)) c2 r2)))
    (hg : ((w3.alloc o).alloc o2).grownBy w5 v.ownBlock)
    (hown : Ow (fun g => w3.heap.size + 1 ≤ g ∨ v.ownBlock = some g) w5 48 5 v' (ls.length + 1) (kcells ls ++ kcells [(s, t)])) :
    Blk w5 (w.heap.size + 1) [.string ⟨#[100, 105, 114]⟩, .string ⟨#[]⟩, .bool false, v] 24 ∧ DrI g n c0 l0 w p (i + 1) (ls ++ [(s, t)]) v' (bstr r2) c2 (w5.setCell ⟨w.heap.size + 1, 3, none⟩ v') := by
  obtain ⟨hz4, hn4, ho4, hk4, hF4, hFr4⟩ := dr_mid hI hp hf2 hf3 o
  have hb4 := ho4.blk
  have hF5 : Fr (fun b => v.ownBlock = some b) (w3.alloc o) w5 := ((Fr.refl _ _).alloc o2).grown hg (fun b hb => .inl hb)
  have hrl : ∀ b, v.ownBlock = some b → b < wr.heap.size := fun b hb => (hI.ow.blk b hb).2
  have hsr := hI.fr.size
  have hs2 := hf2.size
  have hs3 := hf3.size
  have hn1 := hI.bn.lt
  have hs4 : (w3.alloc o).heap.size = w3.heap.size + 1 := by simp
  have hs5 := hF5.size
  have hbw := hown.blk
  have hn5 := hn4.fr hF5 (fun e => by have := (hb4 _ e).1; omega)
  have hz5 := hz4.fr hF5 (fun e => by have := (hb4 _ e).1; omega)
  have hr5 : RdAt w5 p (bstr r2) c2 := (h3.alloc o).fr hF5 (fun e => by have := (hb4 _ e).1; omega)
  have hX : (bstr r2).size = r2.length := by rw [← size_toList, bstr_list]
  have hF6 : Fr (fun b => b = w.heap.size + 1) w5 (w5.setCell ⟨w.heap.size + 1, 3, none⟩ v') := (Fr.refl (fun b => b = w.heap.size + 1) w5).setCell (p := ⟨w.heap.size + 1, 3, none⟩) (.inl rfl) v'
  have hO5 : Oks w5 (ls ++ [(s, t)]) := by
    rw [oks_iff]
    intro x hx
    rcases List.mem_append.1 hx with h | h
    · exact ok_fr hF5 x.2 (oks_iff.1 hk4 x h) (in_mono (fun b hb => hb.2.2) x.2 (inS_iff.1 hI.ins x h))
    · simp only [List.mem_cons, List.not_mem_nil, or_false] at h
      subst h
      exact ok_fr hF5 t (hok.alloc o) (in_mono (fun b hb e => by have := hrl b e; omega) t hin)
  have hI5 : InS (fun b => w.heap.size + 2 ≤ b ∧ b < w5.heap.size ∧ v'.ownBlock ≠ some b) (ls ++ [(s, t)]) := by
    rw [inS_iff]
    intro x hx
    rcases List.mem_append.1 hx with h | h
    · refine in_mono (fun b hb => ⟨hb.1, by omega, fun e => ?_⟩) x.2 (inS_iff.1 hI.ins x h)
      rcases (hbw b e).1 with h1 | h1
      · omega
      · exact hb.2.2 h1
    · simp only [List.mem_cons, List.not_mem_nil, or_false] at h
      subst h
      refine in_mono (fun b hb => ⟨by omega, by omega, fun e => ?_⟩) t hin
      rcases (hbw b e).1 with h1 | h1
      · omega
      · have := hrl b h1; omega
  refine ⟨hn5, hz5.other (a := ⟨w.heap.size + 1, 3, none⟩) (by simp) v', hn5.set 3 v', hr5.other (a := ⟨w.heap.size + 1, 3, none⟩) (by simp; omega) v', ?_, oks_fr hF6 _ hO5 (inS_mono (fun b hb e => by omega) _ hI5), ?_, ?_, ?_, ?_, by omega, ?_, by omega, hc2⟩
  · have h1 : Ow (fun g => w.heap.size + 2 ≤ g) w5 48 5 v' (ls ++ [(s, t)]).length (kcells (ls ++ [(s, t)])) := by
      rw [kcells_app, List.length_append]
      exact hown.mono (fun g hg => by
        rcases hg with h | h
        · omega
        · exact (hb4 g h).1)
    exact h1.set (a := ⟨w.heap.size + 1, 3, none⟩) (by simp) v'
  · have hsz : (w5.setCell ⟨w.heap.size + 1, 3, none⟩ v').heap.size = w5.heap.size := by simp
    rw [hsz]
    exact hI5
  · intro x hx
    rcases List.mem_append.1 hx with h | h
    · exact hI.nm x h
    · simp only [List.mem_cons, List.not_mem_nil, or_false] at h
      subst h
      simp only
      omega
  · exact ((hF4.alloc o2).grown hg (fun k hk => .inr (by have := (hb4 k hk).1; omega))).setCell (p := ⟨w.heap.size + 1, 3, none⟩) (.inr (by simp)) v'
  · rw [hst, preK_pre, List.map_append, bstr_list]; rfl
  · rw [List.length_append, hI.hl]; rfl

theorem bare_mk' (k d : ByteArray) (e : Bool) (v : Value) (ks : List (ByteArray × Lt)) : (Tr.mk k d e v ks : Lt).bare = .mk k d e () (ks.map fun x => (x.1, x.2.bare)) := by
  unfold Tr.bare; rw [Tr.map, Tr.maps_eq]
theorem dr_end {g : Nat → List UInt8 → Got} {n c0 : Nat} {l0 : List UInt8} {w : World} {p i : Nat} {ls : List (ByteArray × Lt)} {va : Option Addr} {vc : Nat} {S : ByteArray} {c : Nat} {wr : World} (hI : DrI g n c0 l0 w p i ls (.slice va ls.length vc) S c wr) (hp : p < w.heap.size) (x0 x1 x2 x3 : Value) :
    (Tr.mk kDir ⟨#[]⟩ false (.slice va ls.length vc) ls : Lt).Ok ((((wr.setCell ⟨w.heap.size, 0, none⟩ x0).setCell ⟨w.heap.size, 1, none⟩ x1).setCell ⟨w.heap.size, 2, none⟩ x2).setCell ⟨w.heap.size, 3, none⟩ x3) ∧
    (Tr.mk kDir ⟨#[]⟩ false (.slice va ls.length vc) ls : Lt).In (fun b => w.heap.size ≤ b ∧ b < ((((wr.setCell ⟨w.heap.size, 0, none⟩ x0).setCell ⟨w.heap.size, 1, none⟩ x1).setCell ⟨w.heap.size, 2, none⟩ x2).setCell ⟨w.heap.size, 3, none⟩ x3).heap.size) ∧
    RdAt ((((wr.setCell ⟨w.heap.size, 0, none⟩ x0).setCell ⟨w.heap.size, 1, none⟩ x1).setCell ⟨w.heap.size, 2, none⟩ x2).setCell ⟨w.heap.size, 3, none⟩ x3) p (bstr S.data.toList) c := by
  have hF := (Fr.refl (fun b => b = w.heap.size) wr).set4 (p := w.heap.size) (.inl rfl) x0 x1 x2 x3
  have hO := hI.ow.frF hF (fun k hk e => by omega)
  refine ⟨Tr.Ok.mk' hO.sl hI.nm (oks_iff.1 (oks_fr hF ls hI.ok (inS_mono (fun b hb e => by omega) ls hI.ins))), ?_, ?_⟩
  · rw [Tr.In]
    refine ⟨fun _ b hb => ?_, inS_mono (fun b hb => ⟨by omega, Nat.lt_of_lt_of_le hb.2.1 hF.size⟩) ls hI.ins⟩
    have hb2 := hO.blk b hb
    exact ⟨by omega, hb2.2⟩
  · rw [bstr_self]
    exact hI.rd.fr hF (fun e => by omega)

theorem u8_ne {y k : UInt8} (h : ¬ y = k) : ((y.toNat : Int) == (k.toNat : Int)) = false := by
  simp
  intro e
  exact h (UInt8.toNat_inj.1 (by omega))
theorem nd_ok {w w2 w5 : World} {x : Nd} {c2 p : Nat} {r2 : List UInt8} {kd da : ByteArray} {ex : Bool} {xa : Option Addr} {xc : Nat} {ks' : List (ByteArray × Lt)} (hbr : (Tr.mk kd da ex (.slice xa ks'.length xc) ks' : Lt).bare = x) (hok : (Tr.mk kd da ex (.slice xa ks'.length xc) ks' : Lt).Ok w5)
    (hin : (Tr.mk kd da ex (.slice xa ks'.length xc) ks' : Lt).In (fun b => w2.heap.size ≤ b ∧ b < w5.heap.size)) (h : RdAt w5 p (bstr r2) c2) (hle : w.heap.size < w2.heap.size) (hp : p < w.heap.size) (x0 x1 x2 x3 : Value) :
    (Tr.mk kd da ex (.slice xa ks'.length xc) ks' : Lt).bare = x ∧ (Tr.mk kd da ex (.slice xa ks'.length xc) ks' : Lt).Ok ((((w5.setCell ⟨w.heap.size, 0, none⟩ x0).setCell ⟨w.heap.size, 1, none⟩ x1).setCell ⟨w.heap.size, 2, none⟩ x2).setCell ⟨w.heap.size, 3, none⟩ x3) ∧
    (Tr.mk kd da ex (.slice xa ks'.length xc) ks' : Lt).In (fun b => w.heap.size ≤ b ∧ b < ((((w5.setCell ⟨w.heap.size, 0, none⟩ x0).setCell ⟨w.heap.size, 1, none⟩ x1).setCell ⟨w.heap.size, 2, none⟩ x2).setCell ⟨w.heap.size, 3, none⟩ x3).heap.size) ∧
    RdAt ((((w5.setCell ⟨w.heap.size, 0, none⟩ x0).setCell ⟨w.heap.size, 1, none⟩ x1).setCell ⟨w.heap.size, 2, none⟩ x2).setCell ⟨w.heap.size, 3, none⟩ x3) p (bstr r2) c2 := by
  have hF := (Fr.refl (fun b => b = w.heap.size) w5).set4 (p := w.heap.size) (.inl rfl) x0 x1 x2 x3
  exact ⟨hbr, ok_fr hF _ hok (in_mono (fun b hb e => by omega) _ hin), in_mono (fun b hb => ⟨by omega, Nat.lt_of_lt_of_le hb.2 hF.size⟩) _ hin, h.fr hF (fun e => by omega)⟩
theorem leaf_ok (w : World) (k d : ByteArray) (e : Bool) : (Tr.mk k d e (.slice none 0 0) [] : Lt).Ok w :=
  Tr.Ok.mk' (Sl.nil _ _) (fun x hx => by simp [Tr.kids] at hx) (fun x hx => by simp [Tr.kids] at hx)
theorem leaf_in (F : Nat → Prop) (k d : ByteArray) (e : Bool) : (Tr.mk k d e (.slice none 0 0) [] : Lt).In F := by
  rw [Tr.In]
  exact ⟨fun h => absurd rfl h, by rw [InS]; trivial⟩

set_option maxRecDepth 100000 in
set_option maxHeartbeats 40000000 in
theorem dir_any (E : Nat → Addr) (B : Nat) (f deep c : Nat) (w0 : World) (hT : TEnv w0) (hE : Env trGs B w0 E) (p : Nat) (hp : w0.heap.size ≤ p) (hd : deep ≤ 9)
    (ih : ∀ (c : Nat) (S : ByteArray) (w : World), c ≤ 200 → RdAt w p S c → Below w0.heap.size w0 w → S.size ≤ 4000000 → Calls Tryd.prog 29 #[.pointer (some ⟨p, 0, none⟩), .int .i64 ((deep : Int) + 1)] w (NdPost E (nodeP f c S.data.toList) p w))
    (S : ByteArray) (w : World) (hc : c ≤ 200) (h : RdAt w p S c) (hB : Below w0.heap.size w0 w) (hs : S.size ≤ 4000000) :
    Calls Tryd.prog 41 #[.pointer (some ⟨p, 0, none⟩), .int .i64 (deep : Int)] w (NdPost E (dirP (nodeP f) c S.data.toList) p w) := by
  obtain ⟨i0, hii, hz0, hz1, hz2'⟩ := info_parts infoKid
  have hpw := h.lt
  have hB1 : Below w.heap.size w ((w.alloc (.cells #[.string ⟨#[]⟩, .string ⟨#[]⟩, .bool false, .slice none 0 0] 24)).alloc (.cells #[.string ⟨#[100, 105, 114]⟩, .string ⟨#[]⟩, .bool false, .slice none 0 0] 24)) := ((Below.refl _ _).alloc (Nat.le_refl _) _).alloc (by simp) _
  have hz := (Blk.new w [.string ⟨#[]⟩, .string ⟨#[]⟩, .bool false, .slice none 0 0] 24).alloc (.cells #[.string ⟨#[100, 105, 114]⟩, .string ⟨#[]⟩, .bool false, .slice none 0 0] 24)
  have hn := Blk.new (w.alloc (.cells #[.string ⟨#[]⟩, .string ⟨#[]⟩, .bool false, .slice none 0 0] 24)) [.string ⟨#[100, 105, 114]⟩, .string ⟨#[]⟩, .bool false, .slice none 0 0] 24
  rw [show (w.alloc (.cells #[.string ⟨#[]⟩, .string ⟨#[]⟩, .bool false, .slice none 0 0] 24)).heap.size = w.heap.size + 1 by simp] at hn
  have hr : RdAt _ p S c := h.below hB1 hpw
  have hB0 := hB.trans (hB1.mono hB.size)
  have hsz1 : ((w.alloc (.cells #[.string ⟨#[]⟩, .string ⟨#[]⟩, .bool false, .slice none 0 0] 24)).alloc (.cells #[.string ⟨#[100, 105, 114]⟩, .string ⟨#[]⟩, .bool false, .slice none 0 0] 24)).heap.size = w.heap.size + 2 := by simp
  clear h
  go_enter Tryd.func41, Tryd.ntmps41
  go_wp2_with fail
  have HC := hidd (rnum_any p c S w0 _ hr hT hB0 hs)
  have HB1 := hidd hB1
  clear hr hB0 hB1
  refine HC.out.mono ?_
  rintro e w1 ⟨⟨hno, rfl, h1⟩ | ⟨n, r, hno, rfl, h1⟩, hf1⟩
  · have hz1' := hz.fr hf1 (by omega)
    have hn1 := hn.fr hf1 (by omega)
    have hF1 : Fr (fun b => b = p) w w1 := (Fr.ob HB1.out).trans hf1
    clear hz hn HC
    have y0 := hz1'.cell (i := 0) rfl
    have y1 := hz1'.cell (i := 1) rfl
    have y2 := hz1'.cell (i := 2) rfl
    have y3 := hz1'.cell (i := 3) rfl
    have f0 := hz1'.frozen 0
    have f1 := hz1'.frozen 1
    have f2 := hz1'.frozen 2
    have f3 := hz1'.frozen 3
    have b0 := hn1.cell (i := 0) rfl
    have b1 := hn1.cell (i := 1) rfl
    have b2 := hn1.cell (i := 2) rfl
    have b3 := hn1.cell (i := 3) rfl
    have hcE := (hE.ob (ob_of_fr hB hp hF1)).cell 2 (by decide)
    unfold erv at hcE
    have s4 := hz1'.set4 (x0 := (Value.string ⟨#[100, 105, 114]⟩)) (x1 := (Value.string ⟨#[]⟩)) (x2 := (Value.bool false)) (x3 := (Value.slice none 0 0))
    have r0 := s4.cell (i := 0) rfl
    have r1 := s4.cell (i := 1) rfl
    have r2 := s4.cell (i := 2) rfl
    have r3 := s4.cell (i := 3) rfl
    have HFR := hidd (hF1.set4 (p := w.heap.size) (.inr (Nat.le_refl _)) ((Value.string ⟨#[100, 105, 114]⟩)) ((Value.string ⟨#[]⟩)) ((Value.bool false)) ((Value.slice none 0 0)))
    have hgl : 2 < w.heap.size := Nat.lt_of_lt_of_le (hE.glt 2 (by decide)) (Nat.le_trans hE.size hB.size)
    have hg1 : ¬ (2 = w.heap.size) := by omega
    have hg2 : ¬ (w.heap.size = 2) := by omega
    have HX := hidd (show dirP (nodeP f) c S.data.toList = .error 1 from by unfold dirP; rw [hno])
    clear s4 hz1' hn1 hF1 hno h1 hf1 ih hT hE
    go_wp2_with fail
    go_region
    all_goals
      go_wp2_with fail
      refine bodyPost_ret (v := .tuple #[.agg #[(Value.string ⟨#[100, 105, 114]⟩), (Value.string ⟨#[]⟩), (Value.bool false), (Value.slice none 0 0)], erv E 2]) ?_ rfl ?_
      · rw [results_cell_tmp rfl]
        unfold erv
        go_simp
      · exact nd_err HX.out rfl HFR.out.drew
  · have hz1' := hz.fr hf1 (by omega)
    have hn1 := hn.fr hf1 (by omega)
    have hF1 : Fr (fun b => b = p) w w1 := (Fr.ob HB1.out).trans hf1
    have hs1 := hf1.size
    rw [hsz1] at hs1
    obtain ⟨n9, hrl, -⟩ := numP_lt hno
    rw [size_toList] at hrl
    have hX : (bstr r).size = r.length := by rw [← size_toList, bstr_list]
    have HI : Hid (DrI (nodeP f) n c r w p 0 [] (.slice none 0 0) (bstr r) c w1) := hidd ⟨hz1', hn1, h1, Ow.nil _ _ _ _, by rw [Oks]; trivial, by rw [InS]; trivial, fun x hx => by simp at hx, hF1, by rw [bstr_list]; exact (preK_nil _).symm, Nat.zero_le _, rfl, by omega, by omega⟩
    have HNO : Hid (dirP (nodeP f) c S.data.toList = match kidsP (nodeP f) n c r with
      | .error e => .error e
      | .ok (ks, c', r') => .ok (.mk kDir ⟨#[]⟩ false () ks, c', r')) := hidd (by unfold dirP; rw [hno]; rfl)
    clear hz hn hf1 HC hz1' hn1 hF1 hno hX hrl h1 hsz1
    go_wp2_with fail
    go_loopw [9, 10, 11, 12, 24] (fun _ _ _ _ iv wr => ∃ (i : Nat) (ls : List (ByteArray × Lt)) (v : Value) (S : ByteArray) (c1 : Nat), iv = .int .i64 (i : Int) ∧ DrI (nodeP f) n c r w p i ls v S c1 wr) (fun _ _ _ _ iv _ => n - (intOf iv).toNat)
    case atStart => exact ⟨0, [], _, _, _, rfl, HI.out⟩
    case round =>
      obtain ⟨i, ls, v, S1, c1, rfl, hI⟩ := hrel
      clear HI
      have hin := hI.hi
      have hB1 := ob_of_fr hB hp hI.fr
      have hln := hI.hl
      have hsz := hI.fr.size
      have p1 : (0 : Int) ≤ (i : Int) := by omega
      obtain ⟨va, vc, rfl⟩ := hI.ow.shape
      by_cases hlt : i < n
      · have p2 : (i : Int) < (n : Int) := by omega
        have p3 : decide ((i : Int) < (n : Int)) = true := decide_eq_true p2
        obtain ⟨m, hm⟩ : ∃ m, n - i = m + 1 := ⟨n - i - 1, by omega⟩
        have hst := hI.st
        rw [hm, kidsP_step] at hst
        have HC := hidd (rcnt_any p c1 S1 w0 wr hI.rd hT hB1 hI.hs)
        have HI := hidd hI
        have HST := hidd hst
        clear hI hst hln
        go_wp2_with fail
        refine HC.out.mono ?_
        rintro e w2 ⟨⟨hno, rfl⟩ | ⟨s, r1, hso, rfl, h2⟩, hf2⟩
        · have hz2 := HI.out.bz.fr hf2 (by omega)
          have hn2 := HI.out.bn.fr hf2 (by omega)
          have hF2 := HI.out.fr.trans' hf2 (fun _ _ h => h) (fun _ _ h => h)
          have HX0 : Hid (dirP (nodeP f) c S.data.toList = .error 1) := hidd (by
            have := HST.out
            rw [hno] at this
            rw [HNO.out, this]
            rfl)
          have y0 := hz2.cell (i := 0) rfl
          have y1 := hz2.cell (i := 1) rfl
          have y2 := hz2.cell (i := 2) rfl
          have y3 := hz2.cell (i := 3) rfl
          have f0 := hz2.frozen 0
          have f1 := hz2.frozen 1
          have f2 := hz2.frozen 2
          have f3 := hz2.frozen 3
          have b0 := hn2.cell (i := 0) rfl
          have b1 := hn2.cell (i := 1) rfl
          have b2 := hn2.cell (i := 2) rfl
          have b3 := hn2.cell (i := 3) rfl
          have hcE := (hE.ob (ob_of_fr hB hp hF2)).cell 2 (by decide)
          unfold erv at hcE
          have s4 := hz2.set4 (x0 := (Value.string ⟨#[100, 105, 114]⟩)) (x1 := (Value.string ⟨#[]⟩)) (x2 := (Value.bool false)) (x3 := (Value.slice va ls.length vc))
          have r0 := s4.cell (i := 0) rfl
          have r1 := s4.cell (i := 1) rfl
          have r2 := s4.cell (i := 2) rfl
          have r3 := s4.cell (i := 3) rfl
          have HFR := hidd (hF2.set4 (p := w.heap.size) (.inr (Nat.le_refl _)) ((Value.string ⟨#[100, 105, 114]⟩)) ((Value.string ⟨#[]⟩)) ((Value.bool false)) ((Value.slice va ls.length vc)))
          have hgl : 2 < w.heap.size := Nat.lt_of_lt_of_le (hE.glt 2 (by decide)) (Nat.le_trans hE.size hB.size)
          have hg1 : ¬ (2 = w.heap.size) := by omega
          have hg2 : ¬ (w.heap.size = 2) := by omega
          have HX := hidd (HX0.out)
          clear s4 hz2 hn2 hF2 hno hf2 ih hT hE HC HI hB1
          go_wp2_with fail
          go_region
          all_goals
            go_wp2_with fail
            refine bodyPost_ret (v := .tuple #[.agg #[(Value.string ⟨#[100, 105, 114]⟩), (Value.string ⟨#[]⟩), (Value.bool false), (Value.slice va ls.length vc)], erv E 2]) ?_ rfl ?_
            · rw [results_cell_tmp rfl]
              unfold erv
              go_simp
            · exact nd_err HX.out rfl HFR.out.drew
        · have hz2 := HI.out.bz.fr hf2 (by omega)
          have hn2 := HI.out.bn.fr hf2 (by omega)
          have hF2 := HI.out.fr.trans hf2
          have hB2 := ob_of_fr hB hp hF2
          obtain ⟨hr1, hss⟩ := countedP_lt hso
          have hSl := HI.out.hs
          have hcl := HI.out.hc
          rw [size_toList] at hr1 hss
          have hX : (bstr r1).size = r1.length := by rw [← size_toList, bstr_list]
          have hST := HST.out
          rw [hso] at hST
          simp only at hST
          have HST := hidd hST
          clear hST hso
          have HQ := ih c1 (bstr r1) w2 hcl h2 hB2 (by omega)
          rw [bstr_list] at HQ
          have HQ := hidd HQ
          have HIH := hidd ih
          clear ih h2 HC
          go_wp2_with fail
          refine HQ.out.mono ?_
          rintro e w3 ⟨hq, hf3⟩
          have hs23 := hf3.size
          cases hX3 : nodeP f c1 r1 with
          | error en =>
            rw [hX3] at hq
            simp only at hq
            obtain ⟨k, d, x, a, mm, cap, g, rfl, hge⟩ := hq
            obtain ⟨hz4, hn4, -, -, hF4, -⟩ := dr_mid HI.out hpw hf2 hf3 (.cells #[.string k, .string d, .bool x, .slice a mm cap] 24)
            have HX : Hid (dirP (nodeP f) c S.data.toList = .error en) := hidd (by
              have := HST.out
              rw [hX3] at this
              rw [HNO.out, this]
              rfl)
            have HGE := hidd hge
            clear hge hX3 hf3 hf2 HST HI HQ HIH hz2 hn2 hF2 hB2 hE
            have y0 := hz4.cell (i := 0) rfl
            have y1 := hz4.cell (i := 1) rfl
            have y2 := hz4.cell (i := 2) rfl
            have y3 := hz4.cell (i := 3) rfl
            have f0 := hz4.frozen 0
            have f1 := hz4.frozen 1
            have f2 := hz4.frozen 2
            have f3 := hz4.frozen 3
            have b0 := hn4.cell (i := 0) rfl
            have b1 := hn4.cell (i := 1) rfl
            have b2 := hn4.cell (i := 2) rfl
            have b3 := hn4.cell (i := 3) rfl
            have s4 := hz4.set4 (x0 := (Value.string ⟨#[100, 105, 114]⟩)) (x1 := (Value.string ⟨#[]⟩)) (x2 := (Value.bool false)) (x3 := (Value.slice va ls.length vc))
            have r0 := s4.cell (i := 0) rfl
            have r1 := s4.cell (i := 1) rfl
            have r2 := s4.cell (i := 2) rfl
            have r3 := s4.cell (i := 3) rfl
            have HFR := hidd (hF4.set4 (p := w.heap.size) (.inr (Nat.le_refl _)) ((Value.string ⟨#[100, 105, 114]⟩)) ((Value.string ⟨#[]⟩)) ((Value.bool false)) ((Value.slice va ls.length vc)))
            clear s4 hz4 hn4 hF4
            unfold erv
            go_wp2_with fail
            refine bodyPost_ret (v := .tuple #[.agg #[.string ⟨#[100, 105, 114]⟩, .string ⟨#[]⟩, .bool false, .slice va ls.length vc], erv E g]) ?_ rfl ?_
            · rw [results_cell_tmp rfl]
              unfold erv
              go_simp
            · exact nd_err HX.out HGE.out HFR.out
          | ok t =>
            obtain ⟨x, c2, r2⟩ := t
            rw [hX3] at hq
            simp only at hq
            obtain ⟨kd, da, ex, xa, xc, ks', rfl, hbr, hok', hin', h3⟩ := hq
            obtain ⟨hz4, hn4, ho4, -, hF4, -⟩ := dr_mid HI.out hpw hf2 hf3 (.cells #[.string kd, .string da, .bool ex, .slice xa ks'.length xc] 24)
            have hd4 := Blk.new w3 [.string kd, .string da, .bool ex, .slice xa ks'.length xc] 24
            obtain ⟨hr2, -, hc2⟩ := nodeP_len _ _ _ _ _ _ hcl hX3
            have HST2 : Hid (kidsP (nodeP f) n c r = preK (ls.map fun x => (x.1, x.2.bare)) (preK [(s, (Tr.mk kd da ex (.slice xa ks'.length xc) ks' : Lt).bare)] (kidsP (nodeP f) (n - (i + 1)) c2 r2))) := hidd (by
              have := HST.out
              rw [hX3] at this
              rw [hbr, show n - (i + 1) = m by omega]
              exact this)
            have d0 := hd4.cell (i := 0) rfl
            have d1 := hd4.cell (i := 1) rfl
            have d2 := hd4.cell (i := 2) rfl
            have d3 := hd4.cell (i := 3) rfl
            have b3 := hn4.cell (i := 3) rfl
            have hs4 : (w3.alloc (.cells #[.string kd, .string da, .bool ex, .slice xa ks'.length xc] 24)).heap.size = w3.heap.size + 1 := by simp
            have hs1' := Src.new (P := Tryd.prog) (size := 5) (tx := 22) Tryd.underlying22 (w3.alloc (.cells #[.string kd, .string da, .bool ex, .slice xa ks'.length xc] 24)) (w3.alloc (.cells #[.string kd, .string da, .bool ex, .slice xa ks'.length xc] 24)).heap.size rfl [.string s, .string kd, .string da, .bool ex, .slice xa ks'.length xc] 48 rfl (by intro u hu; simp only [List.mem_cons, List.not_mem_nil, or_false] at hu; rcases hu with rfl | rfl | rfl | rfl | rfl <;> rfl) 1
            have hlen9 := HI.out.hl
            have HLN := hidd hlen9
            have HOK := hidd hok'
            have HIN := hidd hin'
            have H3 := hidd h3
            have HF2 := hidd hf2
            have HF3 := hidd hf3
            clear hbr hX3 HST HQ hok' hin' h3 hf2 hf3 hz4 hF4 hd4 hn4 hz2 hn2 hF2 hB2 hX hlen9
            have hll : ls.length < n := by rw [HLN.out]; exact hlt
            rw [hs4] at hs1'
            go_wp2_with (at_builtin; refine wpList_append_ow _ rfl _ _ 22 22 rfl (fun g => (w3.alloc (.cells #[.string kd, .string da, .bool ex, .slice xa ks'.length xc] 24)).heap.size ≤ g ∨ (Value.slice va ls.length vc).ownBlock = some g) ?cF 48 i0 _ 5 80 Tryd.underlying22 hii hz0 hz1 hz2' rfl (by decide) _ _ _ rfl ((ho4.self.mono (fun g hg => .inr hg)).alloc _) _ _ _ rfl hs1' ?c3 ?c4 ?_)
            case cF => intro g hg; (try simp at hg); exact .inl (by (try simp); omega)
            case c3 => unfold maxLen; omega
            case c4 => omega
            intro v' w5 hown' hgrow
            obtain ⟨va', vc', rfl⟩ := hown'.shape
            obtain ⟨hn5, hI5⟩ := dr_step HI.out hpw HF2.out HF3.out (s := s) (t := .mk kd da ex (.slice xa ks'.length xc) ks') HOK.out HIN.out H3.out hlt (by omega) (by omega) hc2 HST2.out hgrow hown'
            have HI5 := hidd hI5
            have fz := hn5.frozen 3
            have b35 := hn5.cell (i := 3) rfl
            clear hn5 hI5 hown' hgrow ho4 hs1' d0 d1 d2 d3 b3 hs4
            go_wp2_with fail
            go_roundw
            case rel => exact ⟨i + 1, _, _, _, _, by go_num, HI5.out⟩
            case measure => simp [intOf]; omega
      · have p3 : decide ((i : Int) < (n : Int)) = false := decide_eq_false (by omega)
        have hX : Hid (dirP (nodeP f) c S.data.toList = .ok (.mk kDir ⟨#[]⟩ false () (ls.map fun x => (x.1, x.2.bare)), c1, S1.data.toList)) := hidd (by
          rw [HNO.out, hI.st, show n - i = 0 by omega, kidsP]
          simp [preK])
        have hz2 := hI.bz
        have hn2 := hI.bn
        have hF2 := hI.fr
        have HI := hidd hI
        clear hI HNO hE ih hln
        have y0 := hz2.cell (i := 0) rfl
        have y1 := hz2.cell (i := 1) rfl
        have y2 := hz2.cell (i := 2) rfl
        have y3 := hz2.cell (i := 3) rfl
        have f0 := hz2.frozen 0
        have f1 := hz2.frozen 1
        have f2 := hz2.frozen 2
        have f3 := hz2.frozen 3
        have b0 := hn2.cell (i := 0) rfl
        have b1 := hn2.cell (i := 1) rfl
        have b2 := hn2.cell (i := 2) rfl
        have b3 := hn2.cell (i := 3) rfl
        have s4 := hz2.set4 (x0 := (Value.string ⟨#[100, 105, 114]⟩)) (x1 := (Value.string ⟨#[]⟩)) (x2 := (Value.bool false)) (x3 := (Value.slice va ls.length vc))
        have r0 := s4.cell (i := 0) rfl
        have r1 := s4.cell (i := 1) rfl
        have r2 := s4.cell (i := 2) rfl
        have r3 := s4.cell (i := 3) rfl
        have HFR := hidd (hF2.set4 (p := w.heap.size) (.inr (Nat.le_refl _)) ((Value.string ⟨#[100, 105, 114]⟩)) ((Value.string ⟨#[]⟩)) ((Value.bool false)) ((Value.slice va ls.length vc)))
        clear s4 hz2 hn2 hF2
        go_wp2_with fail
        refine bodyPost_ret (v := .tuple #[.agg #[.string ⟨#[100, 105, 114]⟩, .string ⟨#[]⟩, .bool false, .slice va ls.length vc], .nilIface]) ?_ rfl ?_
        · rw [results_cell_tmp rfl]
          go_simp
        · rw [hX.out]
          obtain ⟨q1, q2, q3⟩ := dr_end HI.out hpw (.string ⟨#[100, 105, 114]⟩) (.string ⟨#[]⟩) (.bool false) (.slice va ls.length vc)
          exact ⟨⟨kDir, ⟨#[]⟩, false, va, vc, ls, rfl, bare_mk' _ _ _ _ _, q1, q2, q3⟩, HFR.out⟩

set_option maxRecDepth 100000 in
set_option maxHeartbeats 40000000 in
theorem node_any (E : Nat → Addr) (B : Nat) (w0 : World) (hT : TEnv w0) (hE : Env trGs B w0 E) (p : Nat) (hp : w0.heap.size ≤ p) : ∀ (f deep c : Nat) (S : ByteArray) (w : World), deep + f = 9 → c ≤ 200 → RdAt w p S c → Below w0.heap.size w0 w → S.size ≤ 4000000 →
    Calls Tryd.prog 29 #[.pointer (some ⟨p, 0, none⟩), .int .i64 (deep : Int)] w (NdPost E (nodeP f c S.data.toList) p w) := by
  intro f
  induction f with
  | zero =>
    intro deep c S w hd hc h hB hs
    obtain rfl : deep = 9 := by omega
    clear hd
    have hpw := h.lt
    have hr : RdAt (w.alloc (.cells #[.string ⟨#[]⟩, .string ⟨#[]⟩, .bool false, .slice none 0 0] 24)) p S c := Blk.alloc h _
    have x1 := hr.cell (i := 1) rfl
    have z1 := hr.frozen 1
    have q1 : IntKind.i64.wrap ((c : Int) + 1) = (c : Int) + 1 := i64_in _ (by omega)
    have hr2 : RdAt ((w.setCell ⟨p, 1, none⟩ (.int .i64 ((c : Int) + 1))).alloc (.cells #[.string ⟨#[]⟩, .string ⟨#[]⟩, .bool false, .slice none 0 0] 24)) p S (c + 1) := Blk.alloc (Blk.set h 1 (.int .i64 ((c : Int) + 1))) _
    have hz2 := Blk.new (w.setCell ⟨p, 1, none⟩ (.int .i64 ((c : Int) + 1))) [.string ⟨#[]⟩, .string ⟨#[]⟩, .bool false, .slice none 0 0] 24
    rw [show (w.setCell ⟨p, 1, none⟩ (.int .i64 ((c : Int) + 1))).heap.size = w.heap.size by simp] at hz2
    have hF2 := ((Fr.refl (fun b => b = p) w).setCell (p := ⟨p, 1, none⟩) (.inl rfl) (.int .i64 ((c : Int) + 1))).alloc (.cells #[.string ⟨#[]⟩, .string ⟨#[]⟩, .bool false, .slice none 0 0] 24)
    clear h hr
    go_enter Tryd.func29, Tryd.ntmps29
    go_upto_region 2 with fail
    clear x1 z1
    generalize (w.setCell ⟨p, 1, none⟩ (.int .i64 ((c : Int) + 1))).alloc (.cells #[.string ⟨#[]⟩, .string ⟨#[]⟩, .bool false, .slice none 0 0] 24) = w2 at *
    have x1 : w2.cell? ⟨p, 1, none⟩ = some (.int .i64 ((c : Int) + 1)) := hr2.cell (i := 1) rfl
    have x0 := hr2.cell (i := 0) rfl
    have y0 := hz2.cell (i := 0) rfl
    have y1 := hz2.cell (i := 1) rfl
    have y2 := hz2.cell (i := 2) rfl
    have y3 := hz2.cell (i := 3) rfl
    have f0 := hz2.frozen 0
    have f1 := hz2.frozen 1
    have f2 := hz2.frozen 2
    have f3 := hz2.frozen 3
    have hcE := (hE.ob (ob_of_fr hB hp hF2)).cell 6 (by decide)
    unfold erv at hcE
    have s4 := hz2.set4 (x0 := (Value.string ⟨#[]⟩)) (x1 := (Value.string ⟨#[]⟩)) (x2 := (Value.bool false)) (x3 := (Value.slice none 0 0))
    have r0 := s4.cell (i := 0) rfl
    have r1 := s4.cell (i := 1) rfl
    have r2 := s4.cell (i := 2) rfl
    have r3 := s4.cell (i := 3) rfl
    have HFR := hidd (hF2.set4 (p := w.heap.size) (.inr (Nat.le_refl _)) ((Value.string ⟨#[]⟩)) ((Value.string ⟨#[]⟩)) ((Value.bool false)) ((Value.slice none 0 0)))
    have hgl : 6 < w.heap.size := Nat.lt_of_lt_of_le (hE.glt 6 (by decide)) (Nat.le_trans hE.size hB.size)
    have hg1 : ¬ (6 = w.heap.size) := by omega
    have hg2 : ¬ (w.heap.size = 6) := by omega
    have HX := hidd (show nodeP 0 c S.data.toList = .error 9 from by rw [nodeP])
    clear s4 hz2  hF2 hT hE
    go_wp2_with fail
    go_region
    all_goals
      go_wp2_with fail
      refine bodyPost_ret (v := .tuple #[.agg #[(Value.string ⟨#[]⟩), (Value.string ⟨#[]⟩), (Value.bool false), (Value.slice none 0 0)], erv E 6]) ?_ rfl ?_
      · rw [results_cell_tmp rfl]
        unfold erv
        go_simp
      · exact nd_err HX.out rfl HFR.out.drew
  | succ f ih =>
    intro deep c S w hd hc h hB hs
    have z8 : decide ((8 : Int) < (deep : Int)) = false := decide_eq_false (by omega)
    have z8' : decide (8 < deep) = false := decide_eq_false (by omega)
    have hd8 : deep ≤ 8 := by omega
    have HD := hidd hd
    clear hd
    have hpw := h.lt
    have hr : RdAt (w.alloc (.cells #[.string ⟨#[]⟩, .string ⟨#[]⟩, .bool false, .slice none 0 0] 24)) p S c := Blk.alloc h _
    have x1 := hr.cell (i := 1) rfl
    have z1 := hr.frozen 1
    have q1 : IntKind.i64.wrap ((c : Int) + 1) = (c : Int) + 1 := i64_in _ (by omega)
    have hr2 : RdAt ((w.setCell ⟨p, 1, none⟩ (.int .i64 ((c : Int) + 1))).alloc (.cells #[.string ⟨#[]⟩, .string ⟨#[]⟩, .bool false, .slice none 0 0] 24)) p S (c + 1) := Blk.alloc (Blk.set h 1 (.int .i64 ((c : Int) + 1))) _
    have hz2 := Blk.new (w.setCell ⟨p, 1, none⟩ (.int .i64 ((c : Int) + 1))) [.string ⟨#[]⟩, .string ⟨#[]⟩, .bool false, .slice none 0 0] 24
    rw [show (w.setCell ⟨p, 1, none⟩ (.int .i64 ((c : Int) + 1))).heap.size = w.heap.size by simp] at hz2
    have hF2 := ((Fr.refl (fun b => b = p) w).setCell (p := ⟨p, 1, none⟩) (.inl rfl) (.int .i64 ((c : Int) + 1))).alloc (.cells #[.string ⟨#[]⟩, .string ⟨#[]⟩, .bool false, .slice none 0 0] 24)
    clear h hr
    go_enter Tryd.func29, Tryd.ntmps29
    go_upto_region 2 with fail
    clear x1 z1
    generalize (w.setCell ⟨p, 1, none⟩ (.int .i64 ((c : Int) + 1))).alloc (.cells #[.string ⟨#[]⟩, .string ⟨#[]⟩, .bool false, .slice none 0 0] 24) = w2 at *
    have x1 : w2.cell? ⟨p, 1, none⟩ = some (.int .i64 ((c : Int) + 1)) := hr2.cell (i := 1) rfl
    have x0 := hr2.cell (i := 0) rfl
    have HN := hidd (nodeP_step f c S.data.toList)
    by_cases h200 : c = 200
    · have H200 := hidd h200
      have z2 : decide ((200 : Int) < (c : Int) + 1) = true := decide_eq_true (by omega)
      have z2' : decide (200 < c + 1) = true := decide_eq_true (by omega)
      have y0 := hz2.cell (i := 0) rfl
      have y1 := hz2.cell (i := 1) rfl
      have y2 := hz2.cell (i := 2) rfl
      have y3 := hz2.cell (i := 3) rfl
      have f0 := hz2.frozen 0
      have f1 := hz2.frozen 1
      have f2 := hz2.frozen 2
      have f3 := hz2.frozen 3
      have hcE := (hE.ob (ob_of_fr hB hp hF2)).cell 7 (by decide)
      unfold erv at hcE
      have s4 := hz2.set4 (x0 := (Value.string ⟨#[]⟩)) (x1 := (Value.string ⟨#[]⟩)) (x2 := (Value.bool false)) (x3 := (Value.slice none 0 0))
      have r0 := s4.cell (i := 0) rfl
      have r1 := s4.cell (i := 1) rfl
      have r2 := s4.cell (i := 2) rfl
      have r3 := s4.cell (i := 3) rfl
      have HFR := hidd (hF2.set4 (p := w.heap.size) (.inr (Nat.le_refl _)) ((Value.string ⟨#[]⟩)) ((Value.string ⟨#[]⟩)) ((Value.bool false)) ((Value.slice none 0 0)))
      have hgl : 7 < w.heap.size := Nat.lt_of_lt_of_le (hE.glt 7 (by decide)) (Nat.le_trans hE.size hB.size)
      have hg1 : ¬ (7 = w.heap.size) := by omega
      have hg2 : ¬ (w.heap.size = 7) := by omega
      have HX := hidd (show nodeP (f + 1) c S.data.toList = .error 8 from by rw [HN.out, if_pos (by omega)])
      clear s4 hz2  hF2 hT hE ih h200 HN
      go_wp2_with fail
      go_region
      all_goals
        go_wp2_with fail
        refine bodyPost_ret (v := .tuple #[.agg #[(Value.string ⟨#[]⟩), (Value.string ⟨#[]⟩), (Value.bool false), (Value.slice none 0 0)], erv E 7]) ?_ rfl ?_
        · rw [results_cell_tmp rfl]
          unfold erv
          go_simp
        · exact nd_err HX.out rfl HFR.out.drew
    · have z2 : decide ((200 : Int) < (c : Int) + 1) = false := decide_eq_false (by omega)
      have z2' : decide (200 < c + 1) = false := decide_eq_false (by omega)
      have HN : Hid (nodeP (f + 1) c S.data.toList = _) := hidd (HN.out.trans (if_neg (by omega)))
      by_cases h0 : S.size = 0
      · have e0 : S.toList = [] := emp_list h0
        have e1 : (S.toList == []) = true := by rw [e0]; rfl
        have el : S.data.toList = [] := by rw [← Lib.toList_data]; exact e0
        have y0 := hz2.cell (i := 0) rfl
        have y1 := hz2.cell (i := 1) rfl
        have y2 := hz2.cell (i := 2) rfl
        have y3 := hz2.cell (i := 3) rfl
        have f0 := hz2.frozen 0
        have f1 := hz2.frozen 1
        have f2 := hz2.frozen 2
        have f3 := hz2.frozen 3
        have hcE := (hE.ob (ob_of_fr hB hp hF2)).cell 2 (by decide)
        unfold erv at hcE
        have s4 := hz2.set4 (x0 := (Value.string ⟨#[]⟩)) (x1 := (Value.string ⟨#[]⟩)) (x2 := (Value.bool false)) (x3 := (Value.slice none 0 0))
        have r0 := s4.cell (i := 0) rfl
        have r1 := s4.cell (i := 1) rfl
        have r2 := s4.cell (i := 2) rfl
        have r3 := s4.cell (i := 3) rfl
        have HFR := hidd (hF2.set4 (p := w.heap.size) (.inr (Nat.le_refl _)) ((Value.string ⟨#[]⟩)) ((Value.string ⟨#[]⟩)) ((Value.bool false)) ((Value.slice none 0 0)))
        have hgl : 2 < w.heap.size := Nat.lt_of_lt_of_le (hE.glt 2 (by decide)) (Nat.le_trans hE.size hB.size)
        have hg1 : ¬ (2 = w.heap.size) := by omega
        have hg2 : ¬ (w.heap.size = 2) := by omega
        have HX := hidd (show nodeP (f + 1) c S.data.toList = .error 1 from by rw [HN.out, el])
        clear s4 hz2  hF2 hT hE ih h200 HN el h0
        go_wp2_with fail
        go_region
        all_goals
          go_wp2_with fail
          refine bodyPost_ret (v := .tuple #[.agg #[(Value.string ⟨#[]⟩), (Value.string ⟨#[]⟩), (Value.bool false), (Value.slice none 0 0)], erv E 2]) ?_ rfl ?_
          · rw [results_cell_tmp rfl]
            unfold erv
            go_simp
          · exact nd_err HX.out rfl HFR.out.drew
      · have e1 := emp_no h0
        have e2 := isEmpty_no h0
        have h1 : 0 < S.size := by omega
        have p1 : (0 : Int) < (S.size : Int) := by omega
        have z0 := hr2.frozen 0
        obtain ⟨y, hy⟩ : ∃ y, S[0] = y := ⟨_, rfl⟩
        have hl : S.data.toList = y :: S.data.toList.drop 1 := by
          have hsz := size_toList S
          conv => lhs; rw [← List.drop_zero (l := S.data.toList), List.drop_eq_getElem_cons (l := S.data.toList) (i := 0) (by omega)]
          rw [← hy]; rfl
        obtain ⟨X, hX⟩ : ∃ X, S.extract 1 S.size = X := ⟨_, rfl⟩
        have hXl : X.data.toList = S.data.toList.drop 1 := by
          rw [← hX, Lib.extract_data, List.take_of_length_le]
          rw [List.length_drop, size_toList]
          exact Nat.le_refl _
        have hXs : X.size ≤ 4000000 := by rw [← size_toList, hXl, List.length_drop, size_toList]; omega
        have hr3 : RdAt (w2.setCell ⟨p, 0, none⟩ (.string X)) p X (c + 1) := Blk.set hr2 0 (.string X)
        have hz3 := hz2.other (a := ⟨p, 0, none⟩) (by simp; omega) (.string X)
        have hF3 := hF2.setCell (p := ⟨p, 0, none⟩) (.inl rfl) (.string X)
        have HN : Hid (nodeP (f + 1) c S.data.toList = if y = 100 then dirP (nodeP f) (c + 1) X.data.toList else if y = 108 ∨ y = 102 ∨ y = 120 then leafP y (c + 1) X.data.toList else .error 1) := hidd (by rw [HN.out, hl, hXl])
        have HXe := hidd hX
        clear hl hXl hX hr2 hz2 hF2
        go_upto_region 10 with fail
        rw [HXe.out]
        clear x1 x0 z0
        generalize w2.setCell ⟨p, 0, none⟩ (.string X) = w3 at *
        have hs3 : w.heap.size + 1 ≤ w3.heap.size := hz3.lt
        have hpz := hr3.lt
        have hB3 := ob_of_fr hB hp hF3
        have HIH := hidd ih
        have HE := hidd hE
        have h200' : c + 1 ≤ 200 := by omega
        clear ih h200 z2 z2' z8 z8' e1 e2 hy
        by_cases k : y = 100
        · have k100 := hidd k
          have e100 : ((y.toNat : Int) == 100) = true := by rw [k]; rfl
          have e108 : ((y.toNat : Int) == 108) = false := by rw [k]; rfl
          have e102 : ((y.toNat : Int) == 102) = false := by rw [k]; rfl
          have e120 : ((y.toNat : Int) == 120) = false := by rw [k]; rfl
          have HNX : Hid (nodeP (f + 1) c S.data.toList = dirP (nodeP f) (c + 1) X.data.toList) := hidd (HN.out.trans (if_pos k))
          have hr4 : RdAt (w3.alloc (.cells #[.string ⟨#[102, 105, 108, 101]⟩, .string ⟨#[]⟩, .bool false, .slice none 0 0] 24)) p X (c + 1) := Blk.alloc hr3 _
          have hz4 := hz3.alloc (.cells #[.string ⟨#[102, 105, 108, 101]⟩, .string ⟨#[]⟩, .bool false, .slice none 0 0] 24)
          have hF4 := hF3.alloc (.cells #[.string ⟨#[102, 105, 108, 101]⟩, .string ⟨#[]⟩, .bool false, .slice none 0 0] 24)
          have hl4 := Blk.new w3 [.string ⟨#[102, 105, 108, 101]⟩, .string ⟨#[]⟩, .bool false, .slice none 0 0] 24
          have hs4 : (w3.alloc (.cells #[.string ⟨#[102, 105, 108, 101]⟩, .string ⟨#[]⟩, .bool false, .slice none 0 0] 24)).heap.size = w3.heap.size + 1 := by simp
          have hB4 := ob_of_fr hB hp hF4
          have HC := hidd (dir_any E B f deep (c + 1) w0 hT hE p hp (by omega) (fun c S w h1 h2 h3 h4 => HIH.out (deep + 1) c S w (by have := HD.out; omega) h1 h2 h3 h4) X _ h200' hr4 hB4 hXs)
          clear hr3 hz3 hF3 k HN hr4 hB4 hE hl4
          go_wp2_with fail
          refine HC.out.mono ?_
          rintro e w5 ⟨hq, hf5⟩
          have hz5 := hz4.fr hf5 (by omega)
          have hF5 := hF4.trans hf5
          cases hX5 : dirP (nodeP f) (c + 1) X.data.toList with
          | error en =>
            rw [hX5] at hq
            simp only at hq
            obtain ⟨k, d, x, a, mm, cap, g, rfl, hge⟩ := hq
            have HX := hidd (HNX.out.trans hX5)
            have HGE := hidd hge
            clear hge hX5 hf5 HC hz4 hF4 HNX
            have y0 := hz5.cell (i := 0) rfl
            have y1 := hz5.cell (i := 1) rfl
            have y2 := hz5.cell (i := 2) rfl
            have y3 := hz5.cell (i := 3) rfl
            have f0 := hz5.frozen 0
            have f1 := hz5.frozen 1
            have f2 := hz5.frozen 2
            have f3 := hz5.frozen 3
            have s4 := hz5.set4 (x0 := (Value.string k)) (x1 := (Value.string d)) (x2 := (Value.bool x)) (x3 := (Value.slice a mm cap))
            have r0 := s4.cell (i := 0) rfl
            have r1 := s4.cell (i := 1) rfl
            have r2 := s4.cell (i := 2) rfl
            have r3 := s4.cell (i := 3) rfl
            have HFR := hidd (hF5.set4 (p := w.heap.size) (.inr (Nat.le_refl _)) ((Value.string k)) ((Value.string d)) ((Value.bool x)) ((Value.slice a mm cap)))
            clear s4 hz5 hF5
            unfold erv
            go_wp2_with fail
            refine bodyPost_ret (v := .tuple #[.agg #[.string k, .string d, .bool x, .slice a mm cap], erv E g]) ?_ rfl ?_
            · rw [results_cell_tmp rfl]
              unfold erv
              go_simp
            · exact nd_err HX.out HGE.out HFR.out
          | ok t =>
            obtain ⟨x, c2, r2⟩ := t
            rw [hX5] at hq
            simp only at hq
            obtain ⟨kd, da, ex, xa, xc, ks', rfl, hbr, hok', hin', h5⟩ := hq
            have HX := hidd (HNX.out.trans hX5)
            have HP := hidd (nd_ok (w := w) hbr hok' hin' h5 (by omega) hpw (.string kd) (.string da) (.bool ex) (.slice xa ks'.length xc))
            clear hX5 hf5 HC hz4 hF4 HNX hbr hok' hin' h5
            have y0 := hz5.cell (i := 0) rfl
            have y1 := hz5.cell (i := 1) rfl
            have y2 := hz5.cell (i := 2) rfl
            have y3 := hz5.cell (i := 3) rfl
            have f0 := hz5.frozen 0
            have f1 := hz5.frozen 1
            have f2 := hz5.frozen 2
            have f3 := hz5.frozen 3
            have s4 := hz5.set4 (x0 := (Value.string kd)) (x1 := (Value.string da)) (x2 := (Value.bool ex)) (x3 := (Value.slice xa ks'.length xc))
            have r0 := s4.cell (i := 0) rfl
            have r1 := s4.cell (i := 1) rfl
            have r2 := s4.cell (i := 2) rfl
            have r3 := s4.cell (i := 3) rfl
            have HFR := hidd (hF5.set4 (p := w.heap.size) (.inr (Nat.le_refl _)) ((Value.string kd)) ((Value.string da)) ((Value.bool ex)) ((Value.slice xa ks'.length xc)))
            clear s4 hz5 hF5
            go_wp2_with fail
            refine bodyPost_ret (v := .tuple #[.agg #[.string kd, .string da, .bool ex, .slice xa ks'.length xc], .nilIface]) ?_ rfl ?_
            · rw [results_cell_tmp rfl]
              go_simp
            · rw [HX.out]
              exact ⟨⟨kd, da, ex, xa, xc, ks', rfl, HP.out⟩, HFR.out⟩
        have k100 := k
        clear k
        by_cases k : y = 108
        · clear k100
          have e100 : ((y.toNat : Int) == 100) = false := by rw [k]; rfl
          have e108 : ((y.toNat : Int) == 108) = true := by rw [k]; rfl
          have e102 : ((y.toNat : Int) == 102) = false := by rw [k]; rfl
          have e120 : ((y.toNat : Int) == 120) = false := by rw [k]; rfl
          have hr4 : RdAt (w3.alloc (.cells #[.string ⟨#[108, 105, 110, 107]⟩, .string ⟨#[]⟩, .bool false, .slice none 0 0] 24)) p X (c + 1) := Blk.alloc hr3 _
          have hz4 := hz3.alloc (.cells #[.string ⟨#[108, 105, 110, 107]⟩, .string ⟨#[]⟩, .bool false, .slice none 0 0] 24)
          have hF4 := hF3.alloc (.cells #[.string ⟨#[108, 105, 110, 107]⟩, .string ⟨#[]⟩, .bool false, .slice none 0 0] 24)
          have hl4 := Blk.new w3 [.string ⟨#[108, 105, 110, 107]⟩, .string ⟨#[]⟩, .bool false, .slice none 0 0] 24
          have hs4 : (w3.alloc (.cells #[.string ⟨#[108, 105, 110, 107]⟩, .string ⟨#[]⟩, .bool false, .slice none 0 0] 24)).heap.size = w3.heap.size + 1 := by simp
          have hB4 := ob_of_fr hB hp hF4
          have HNX : Hid (nodeP (f + 1) c S.data.toList = leafP 108 (c + 1) X.data.toList) := hidd (by rw [HN.out, k, if_neg (by decide), if_pos (by decide)])
          have HC := hidd (rcnt_any p (c + 1) X w0 _ hr4 hT hB4 hXs)
          clear hr3 hz3 hF3 k HN hr4 hB4
          go_wp2_with fail
          refine HC.out.mono ?_
          rintro e w5 ⟨⟨hno, rfl⟩ | ⟨s, r1, hso, rfl, h5⟩, hf5⟩
          · have hz5 := hz4.fr hf5 (by omega)
            have hF5 := hF4.trans hf5
            have y0 := hz5.cell (i := 0) rfl
            have y1 := hz5.cell (i := 1) rfl
            have y2 := hz5.cell (i := 2) rfl
            have y3 := hz5.cell (i := 3) rfl
            have f0 := hz5.frozen 0
            have f1 := hz5.frozen 1
            have f2 := hz5.frozen 2
            have f3 := hz5.frozen 3
            have hcE := (hE.ob (ob_of_fr hB hp hF5)).cell 2 (by decide)
            unfold erv at hcE
            have s4 := hz5.set4 (x0 := (Value.string ⟨#[]⟩)) (x1 := (Value.string ⟨#[]⟩)) (x2 := (Value.bool false)) (x3 := (Value.slice none 0 0))
            have r0 := s4.cell (i := 0) rfl
            have r1 := s4.cell (i := 1) rfl
            have r2 := s4.cell (i := 2) rfl
            have r3 := s4.cell (i := 3) rfl
            have HFR := hidd (hF5.set4 (p := w.heap.size) (.inr (Nat.le_refl _)) ((Value.string ⟨#[]⟩)) ((Value.string ⟨#[]⟩)) ((Value.bool false)) ((Value.slice none 0 0)))
            have hgl : 2 < w.heap.size := Nat.lt_of_lt_of_le (hE.glt 2 (by decide)) (Nat.le_trans hE.size hB.size)
            have hg1 : ¬ (2 = w.heap.size) := by omega
            have hg2 : ¬ (w.heap.size = 2) := by omega
            have HX := hidd (show nodeP (f + 1) c S.data.toList = .error 1 from by rw [HNX.out]; unfold leafP; rw [hno])
            clear s4 hz5  hF5 hno hf5 HNX hz4 hF4 hl4 HC hE
            go_wp2_with fail
            go_region
            all_goals
              go_wp2_with fail
              refine bodyPost_ret (v := .tuple #[.agg #[(Value.string ⟨#[]⟩), (Value.string ⟨#[]⟩), (Value.bool false), (Value.slice none 0 0)], erv E 2]) ?_ rfl ?_
              · rw [results_cell_tmp rfl]
                unfold erv
                go_simp
              · exact nd_err HX.out rfl HFR.out.drew
          · have hz5 := hz4.fr hf5 (by omega)
            have hl5 := hl4.fr hf5 (by omega)
            have hF5 := hF4.trans hf5
            have hs5 := hf5.size
            have fl := hl5.frozen 1
            have hz6 := hz5.other (a := ⟨w3.heap.size, 1, none⟩) (by simp; omega) (.string s)
            have hl6 := hl5.set 1 (.string s)
            have hF6 := hF5.setCell (p := ⟨w3.heap.size, 1, none⟩) (.inr (by simp; omega)) (.string s)
            have h6 : RdAt (w5.setCell ⟨w3.heap.size, 1, none⟩ (.string s)) p (bstr r1) (c + 1) := Blk.other h5 (a := ⟨w3.heap.size, 1, none⟩) (by simp; omega) (.string s)
            have HX : Hid (nodeP (f + 1) c S.data.toList = .ok (.mk kLink s false () [], c + 1, r1)) := hidd (by rw [HNX.out]; unfold leafP; rw [hso]; rfl)
            have l0 := hl5.cell (i := 1) rfl
            clear hso hf5 HNX hz4 hF4 hl4 HC hz5 hF5 hl5 h5 hs4
            generalize hw6 : w5.setCell ⟨w3.heap.size, 1, none⟩ (.string s) = w6 at *
            have b0 := hl6.cell (i := 0) rfl
            have b1 := hl6.cell (i := 1) rfl
            have b2 := hl6.cell (i := 2) rfl
            have b3 := hl6.cell (i := 3) rfl
            have hs6 := hF6.size
            have HP := hidd (nd_ok (w := w) (x := .mk kLink s false () []) (kd := kLink) (da := s) (ex := false) (xa := none) (xc := 0) (ks' := []) (w2 := w6) (bare_mk' _ _ _ _ _) (leaf_ok _ _ _ _) (leaf_in _ _ _ _) h6 hz6.lt hpw (.string ⟨#[108, 105, 110, 107]⟩) (.string s) (.bool false) (.slice none 0 0))
            have y0 := hz6.cell (i := 0) rfl
            have y1 := hz6.cell (i := 1) rfl
            have y2 := hz6.cell (i := 2) rfl
            have y3 := hz6.cell (i := 3) rfl
            have f0 := hz6.frozen 0
            have f1 := hz6.frozen 1
            have f2 := hz6.frozen 2
            have f3 := hz6.frozen 3
            have s4 := hz6.set4 (x0 := (Value.string ⟨#[108, 105, 110, 107]⟩)) (x1 := (Value.string s)) (x2 := (Value.bool false)) (x3 := (Value.slice none 0 0))
            have r0 := s4.cell (i := 0) rfl
            have r1 := s4.cell (i := 1) rfl
            have r2 := s4.cell (i := 2) rfl
            have r3 := s4.cell (i := 3) rfl
            have HFR := hidd (hF6.set4 (p := w.heap.size) (.inr (Nat.le_refl _)) ((Value.string ⟨#[108, 105, 110, 107]⟩)) ((Value.string s)) ((Value.bool false)) ((Value.slice none 0 0)))
            clear s4 hz6 hF6 hl6 h6
            go_wp2_with fail
            refine bodyPost_ret (v := .tuple #[.agg #[.string ⟨#[108, 105, 110, 107]⟩, .string s, .bool false, .slice none 0 0], .nilIface]) ?_ rfl ?_
            · rw [results_cell_tmp rfl]
              go_simp
            · rw [HX.out]
              exact ⟨⟨kLink, s, false, none, 0, [], rfl, HP.out⟩, HFR.out⟩
        have k108 := k
        clear k
        by_cases k : y = 102
        · clear k100 k108
          have e100 : ((y.toNat : Int) == 100) = false := by rw [k]; rfl
          have e108 : ((y.toNat : Int) == 108) = false := by rw [k]; rfl
          have e102 : ((y.toNat : Int) == 102) = true := by rw [k]; rfl
          have e120 : ((y.toNat : Int) == 120) = false := by rw [k]; rfl
          have hr4 : RdAt (w3.alloc (.cells #[.string ⟨#[102, 105, 108, 101]⟩, .string ⟨#[]⟩, .bool false, .slice none 0 0] 24)) p X (c + 1) := Blk.alloc hr3 _
          have hz4 := hz3.alloc (.cells #[.string ⟨#[102, 105, 108, 101]⟩, .string ⟨#[]⟩, .bool false, .slice none 0 0] 24)
          have hF4 := hF3.alloc (.cells #[.string ⟨#[102, 105, 108, 101]⟩, .string ⟨#[]⟩, .bool false, .slice none 0 0] 24)
          have hl4 := Blk.new w3 [.string ⟨#[102, 105, 108, 101]⟩, .string ⟨#[]⟩, .bool false, .slice none 0 0] 24
          have hs4 : (w3.alloc (.cells #[.string ⟨#[102, 105, 108, 101]⟩, .string ⟨#[]⟩, .bool false, .slice none 0 0] 24)).heap.size = w3.heap.size + 1 := by simp
          have hB4 := ob_of_fr hB hp hF4
          have HNX : Hid (nodeP (f + 1) c S.data.toList = leafP 102 (c + 1) X.data.toList) := hidd (by rw [HN.out, k, if_neg (by decide), if_pos (by decide)])
          have HC := hidd (rcnt_any p (c + 1) X w0 _ hr4 hT hB4 hXs)
          clear hr3 hz3 hF3 k HN hr4 hB4
          go_wp2_with fail
          refine HC.out.mono ?_
          rintro e w5 ⟨⟨hno, rfl⟩ | ⟨s, r1, hso, rfl, h5⟩, hf5⟩
          · have hz5 := hz4.fr hf5 (by omega)
            have hF5 := hF4.trans hf5
            have y0 := hz5.cell (i := 0) rfl
            have y1 := hz5.cell (i := 1) rfl
            have y2 := hz5.cell (i := 2) rfl
            have y3 := hz5.cell (i := 3) rfl
            have f0 := hz5.frozen 0
            have f1 := hz5.frozen 1
            have f2 := hz5.frozen 2
            have f3 := hz5.frozen 3
            have hcE := (hE.ob (ob_of_fr hB hp hF5)).cell 2 (by decide)
            unfold erv at hcE
            have s4 := hz5.set4 (x0 := (Value.string ⟨#[]⟩)) (x1 := (Value.string ⟨#[]⟩)) (x2 := (Value.bool false)) (x3 := (Value.slice none 0 0))
            have r0 := s4.cell (i := 0) rfl
            have r1 := s4.cell (i := 1) rfl
            have r2 := s4.cell (i := 2) rfl
            have r3 := s4.cell (i := 3) rfl
            have HFR := hidd (hF5.set4 (p := w.heap.size) (.inr (Nat.le_refl _)) ((Value.string ⟨#[]⟩)) ((Value.string ⟨#[]⟩)) ((Value.bool false)) ((Value.slice none 0 0)))
            have hgl : 2 < w.heap.size := Nat.lt_of_lt_of_le (hE.glt 2 (by decide)) (Nat.le_trans hE.size hB.size)
            have hg1 : ¬ (2 = w.heap.size) := by omega
            have hg2 : ¬ (w.heap.size = 2) := by omega
            have HX := hidd (show nodeP (f + 1) c S.data.toList = .error 1 from by rw [HNX.out]; unfold leafP; rw [hno])
            clear s4 hz5  hF5 hno hf5 HNX hz4 hF4 hl4 HC hE
            go_wp2_with fail
            go_region
            all_goals
              go_wp2_with fail
              refine bodyPost_ret (v := .tuple #[.agg #[(Value.string ⟨#[]⟩), (Value.string ⟨#[]⟩), (Value.bool false), (Value.slice none 0 0)], erv E 2]) ?_ rfl ?_
              · rw [results_cell_tmp rfl]
                unfold erv
                go_simp
              · exact nd_err HX.out rfl HFR.out.drew
          · have hz5 := hz4.fr hf5 (by omega)
            have hl5 := hl4.fr hf5 (by omega)
            have hF5 := hF4.trans hf5
            have hs5 := hf5.size
            have fl := hl5.frozen 1
            have hz6 := hz5.other (a := ⟨w3.heap.size, 1, none⟩) (by simp; omega) (.string s)
            have hl6 := hl5.set 1 (.string s)
            have hF6 := hF5.setCell (p := ⟨w3.heap.size, 1, none⟩) (.inr (by simp; omega)) (.string s)
            have h6 : RdAt (w5.setCell ⟨w3.heap.size, 1, none⟩ (.string s)) p (bstr r1) (c + 1) := Blk.other h5 (a := ⟨w3.heap.size, 1, none⟩) (by simp; omega) (.string s)
            have HX : Hid (nodeP (f + 1) c S.data.toList = .ok (.mk kFile s false () [], c + 1, r1)) := hidd (by rw [HNX.out]; unfold leafP; rw [hso]; rfl)
            have l0 := hl5.cell (i := 1) rfl
            clear hso hf5 HNX hz4 hF4 hl4 HC hz5 hF5 hl5 h5 hs4
            generalize hw6 : w5.setCell ⟨w3.heap.size, 1, none⟩ (.string s) = w6 at *
            have b0 := hl6.cell (i := 0) rfl
            have b1 := hl6.cell (i := 1) rfl
            have b2 := hl6.cell (i := 2) rfl
            have b3 := hl6.cell (i := 3) rfl
            have hs6 := hF6.size
            have HP := hidd (nd_ok (w := w) (x := .mk kFile s false () []) (kd := kFile) (da := s) (ex := false) (xa := none) (xc := 0) (ks' := []) (w2 := w6) (bare_mk' _ _ _ _ _) (leaf_ok _ _ _ _) (leaf_in _ _ _ _) h6 hz6.lt hpw (.string ⟨#[102, 105, 108, 101]⟩) (.string s) (.bool false) (.slice none 0 0))
            have y0 := hz6.cell (i := 0) rfl
            have y1 := hz6.cell (i := 1) rfl
            have y2 := hz6.cell (i := 2) rfl
            have y3 := hz6.cell (i := 3) rfl
            have f0 := hz6.frozen 0
            have f1 := hz6.frozen 1
            have f2 := hz6.frozen 2
            have f3 := hz6.frozen 3
            have s4 := hz6.set4 (x0 := (Value.string ⟨#[102, 105, 108, 101]⟩)) (x1 := (Value.string s)) (x2 := (Value.bool false)) (x3 := (Value.slice none 0 0))
            have r0 := s4.cell (i := 0) rfl
            have r1 := s4.cell (i := 1) rfl
            have r2 := s4.cell (i := 2) rfl
            have r3 := s4.cell (i := 3) rfl
            have HFR := hidd (hF6.set4 (p := w.heap.size) (.inr (Nat.le_refl _)) ((Value.string ⟨#[102, 105, 108, 101]⟩)) ((Value.string s)) ((Value.bool false)) ((Value.slice none 0 0)))
            clear s4 hz6 hF6 hl6 h6
            go_wp2_with fail
            refine bodyPost_ret (v := .tuple #[.agg #[.string ⟨#[102, 105, 108, 101]⟩, .string s, .bool false, .slice none 0 0], .nilIface]) ?_ rfl ?_
            · rw [results_cell_tmp rfl]
              go_simp
            · rw [HX.out]
              exact ⟨⟨kFile, s, false, none, 0, [], rfl, HP.out⟩, HFR.out⟩
        have k102 := k
        clear k
        by_cases k : y = 120
        · clear k100 k108 k102
          have e100 : ((y.toNat : Int) == 100) = false := by rw [k]; rfl
          have e108 : ((y.toNat : Int) == 108) = false := by rw [k]; rfl
          have e102 : ((y.toNat : Int) == 102) = false := by rw [k]; rfl
          have e120 : ((y.toNat : Int) == 120) = true := by rw [k]; rfl
          have hr4 : RdAt (w3.alloc (.cells #[.string ⟨#[102, 105, 108, 101]⟩, .string ⟨#[]⟩, .bool true, .slice none 0 0] 24)) p X (c + 1) := Blk.alloc hr3 _
          have hz4 := hz3.alloc (.cells #[.string ⟨#[102, 105, 108, 101]⟩, .string ⟨#[]⟩, .bool true, .slice none 0 0] 24)
          have hF4 := hF3.alloc (.cells #[.string ⟨#[102, 105, 108, 101]⟩, .string ⟨#[]⟩, .bool true, .slice none 0 0] 24)
          have hl4 := Blk.new w3 [.string ⟨#[102, 105, 108, 101]⟩, .string ⟨#[]⟩, .bool true, .slice none 0 0] 24
          have hs4 : (w3.alloc (.cells #[.string ⟨#[102, 105, 108, 101]⟩, .string ⟨#[]⟩, .bool true, .slice none 0 0] 24)).heap.size = w3.heap.size + 1 := by simp
          have hB4 := ob_of_fr hB hp hF4
          have HNX : Hid (nodeP (f + 1) c S.data.toList = leafP 120 (c + 1) X.data.toList) := hidd (by rw [HN.out, k, if_neg (by decide), if_pos (by decide)])
          have HC := hidd (rcnt_any p (c + 1) X w0 _ hr4 hT hB4 hXs)
          clear hr3 hz3 hF3 k HN hr4 hB4
          go_wp2_with fail
          refine HC.out.mono ?_
          rintro e w5 ⟨⟨hno, rfl⟩ | ⟨s, r1, hso, rfl, h5⟩, hf5⟩
          · have hz5 := hz4.fr hf5 (by omega)
            have hF5 := hF4.trans hf5
            have y0 := hz5.cell (i := 0) rfl
            have y1 := hz5.cell (i := 1) rfl
            have y2 := hz5.cell (i := 2) rfl
            have y3 := hz5.cell (i := 3) rfl
            have f0 := hz5.frozen 0
            have f1 := hz5.frozen 1
            have f2 := hz5.frozen 2
            have f3 := hz5.frozen 3
            have hcE := (hE.ob (ob_of_fr hB hp hF5)).cell 2 (by decide)
            unfold erv at hcE
            have s4 := hz5.set4 (x0 := (Value.string ⟨#[]⟩)) (x1 := (Value.string ⟨#[]⟩)) (x2 := (Value.bool false)) (x3 := (Value.slice none 0 0))
            have r0 := s4.cell (i := 0) rfl
            have r1 := s4.cell (i := 1) rfl
            have r2 := s4.cell (i := 2) rfl
            have r3 := s4.cell (i := 3) rfl
            have HFR := hidd (hF5.set4 (p := w.heap.size) (.inr (Nat.le_refl _)) ((Value.string ⟨#[]⟩)) ((Value.string ⟨#[]⟩)) ((Value.bool false)) ((Value.slice none 0 0)))
            have hgl : 2 < w.heap.size := Nat.lt_of_lt_of_le (hE.glt 2 (by decide)) (Nat.le_trans hE.size hB.size)
            have hg1 : ¬ (2 = w.heap.size) := by omega
            have hg2 : ¬ (w.heap.size = 2) := by omega
            have HX := hidd (show nodeP (f + 1) c S.data.toList = .error 1 from by rw [HNX.out]; unfold leafP; rw [hno])
            clear s4 hz5  hF5 hno hf5 HNX hz4 hF4 hl4 HC hE
            go_wp2_with fail
            go_region
            all_goals
              go_wp2_with fail
              refine bodyPost_ret (v := .tuple #[.agg #[(Value.string ⟨#[]⟩), (Value.string ⟨#[]⟩), (Value.bool false), (Value.slice none 0 0)], erv E 2]) ?_ rfl ?_
              · rw [results_cell_tmp rfl]
                unfold erv
                go_simp
              · exact nd_err HX.out rfl HFR.out.drew
          · have hz5 := hz4.fr hf5 (by omega)
            have hl5 := hl4.fr hf5 (by omega)
            have hF5 := hF4.trans hf5
            have hs5 := hf5.size
            have fl := hl5.frozen 1
            have hz6 := hz5.other (a := ⟨w3.heap.size, 1, none⟩) (by simp; omega) (.string s)
            have hl6 := hl5.set 1 (.string s)
            have hF6 := hF5.setCell (p := ⟨w3.heap.size, 1, none⟩) (.inr (by simp; omega)) (.string s)
            have h6 : RdAt (w5.setCell ⟨w3.heap.size, 1, none⟩ (.string s)) p (bstr r1) (c + 1) := Blk.other h5 (a := ⟨w3.heap.size, 1, none⟩) (by simp; omega) (.string s)
            have HX : Hid (nodeP (f + 1) c S.data.toList = .ok (.mk kFile s true () [], c + 1, r1)) := hidd (by rw [HNX.out]; unfold leafP; rw [hso]; rfl)
            have l0 := hl5.cell (i := 1) rfl
            clear hso hf5 HNX hz4 hF4 hl4 HC hz5 hF5 hl5 h5 hs4
            generalize hw6 : w5.setCell ⟨w3.heap.size, 1, none⟩ (.string s) = w6 at *
            have b0 := hl6.cell (i := 0) rfl
            have b1 := hl6.cell (i := 1) rfl
            have b2 := hl6.cell (i := 2) rfl
            have b3 := hl6.cell (i := 3) rfl
            have hs6 := hF6.size
            have HP := hidd (nd_ok (w := w) (x := .mk kFile s true () []) (kd := kFile) (da := s) (ex := true) (xa := none) (xc := 0) (ks' := []) (w2 := w6) (bare_mk' _ _ _ _ _) (leaf_ok _ _ _ _) (leaf_in _ _ _ _) h6 hz6.lt hpw (.string ⟨#[102, 105, 108, 101]⟩) (.string s) (.bool true) (.slice none 0 0))
            have y0 := hz6.cell (i := 0) rfl
            have y1 := hz6.cell (i := 1) rfl
            have y2 := hz6.cell (i := 2) rfl
            have y3 := hz6.cell (i := 3) rfl
            have f0 := hz6.frozen 0
            have f1 := hz6.frozen 1
            have f2 := hz6.frozen 2
            have f3 := hz6.frozen 3
            have s4 := hz6.set4 (x0 := (Value.string ⟨#[102, 105, 108, 101]⟩)) (x1 := (Value.string s)) (x2 := (Value.bool true)) (x3 := (Value.slice none 0 0))
            have r0 := s4.cell (i := 0) rfl
            have r1 := s4.cell (i := 1) rfl
            have r2 := s4.cell (i := 2) rfl
            have r3 := s4.cell (i := 3) rfl
            have HFR := hidd (hF6.set4 (p := w.heap.size) (.inr (Nat.le_refl _)) ((Value.string ⟨#[102, 105, 108, 101]⟩)) ((Value.string s)) ((Value.bool true)) ((Value.slice none 0 0)))
            clear s4 hz6 hF6 hl6 h6
            go_wp2_with fail
            refine bodyPost_ret (v := .tuple #[.agg #[.string ⟨#[102, 105, 108, 101]⟩, .string s, .bool true, .slice none 0 0], .nilIface]) ?_ rfl ?_
            · rw [results_cell_tmp rfl]
              go_simp
            · rw [HX.out]
              exact ⟨⟨kFile, s, true, none, 0, [], rfl, HP.out⟩, HFR.out⟩
        have k120 := k
        clear k
        have e100 : ((y.toNat : Int) == 100) = false := u8_ne k100
        have e108 : ((y.toNat : Int) == 108) = false := u8_ne k108
        have e102 : ((y.toNat : Int) == 102) = false := u8_ne k102
        have e120 : ((y.toNat : Int) == 120) = false := u8_ne k120
        have HX0 : Hid (nodeP (f + 1) c S.data.toList = .error 1) := hidd (by rw [HN.out, if_neg k100, if_neg (by simp [k108, k102, k120])])
        have hr4 : RdAt (w3.alloc (.cells #[.string ⟨#[102, 105, 108, 101]⟩, .string ⟨#[]⟩, .bool false, .slice none 0 0] 24)) p X (c + 1) := Blk.alloc hr3 _
        have hz4 := hz3.alloc (.cells #[.string ⟨#[102, 105, 108, 101]⟩, .string ⟨#[]⟩, .bool false, .slice none 0 0] 24)
        have hF4 := hF3.alloc (.cells #[.string ⟨#[102, 105, 108, 101]⟩, .string ⟨#[]⟩, .bool false, .slice none 0 0] 24)
        have hl4 := Blk.new w3 [.string ⟨#[102, 105, 108, 101]⟩, .string ⟨#[]⟩, .bool false, .slice none 0 0] 24
        have hs4 : (w3.alloc (.cells #[.string ⟨#[102, 105, 108, 101]⟩, .string ⟨#[]⟩, .bool false, .slice none 0 0] 24)).heap.size = w3.heap.size + 1 := by simp
        have hB4 := ob_of_fr hB hp hF4
        have y0 := hz4.cell (i := 0) rfl
        have y1 := hz4.cell (i := 1) rfl
        have y2 := hz4.cell (i := 2) rfl
        have y3 := hz4.cell (i := 3) rfl
        have f0 := hz4.frozen 0
        have f1 := hz4.frozen 1
        have f2 := hz4.frozen 2
        have f3 := hz4.frozen 3
        have hcE := (hE.ob (ob_of_fr hB hp hF4)).cell 2 (by decide)
        unfold erv at hcE
        have s4 := hz4.set4 (x0 := (Value.string ⟨#[]⟩)) (x1 := (Value.string ⟨#[]⟩)) (x2 := (Value.bool false)) (x3 := (Value.slice none 0 0))
        have r0 := s4.cell (i := 0) rfl
        have r1 := s4.cell (i := 1) rfl
        have r2 := s4.cell (i := 2) rfl
        have r3 := s4.cell (i := 3) rfl
        have HFR := hidd (hF4.set4 (p := w.heap.size) (.inr (Nat.le_refl _)) ((Value.string ⟨#[]⟩)) ((Value.string ⟨#[]⟩)) ((Value.bool false)) ((Value.slice none 0 0)))
        have hgl : 2 < w.heap.size := Nat.lt_of_lt_of_le (hE.glt 2 (by decide)) (Nat.le_trans hE.size hB.size)
        have hg1 : ¬ (2 = w.heap.size) := by omega
        have hg2 : ¬ (w.heap.size = 2) := by omega
        have HX := hidd (HX0.out)
        clear s4 hz4  hF4 hr3 hz3 hF3 HN hr4 hB4 hl4 hs4 k100 k108 k102 k120 hE
        go_wp2_with fail
        go_region
        all_goals
          go_wp2_with fail
          refine bodyPost_ret (v := .tuple #[.agg #[(Value.string ⟨#[]⟩), (Value.string ⟨#[]⟩), (Value.bool false), (Value.slice none 0 0)], erv E 2]) ?_ rfl ?_
          · rw [results_cell_tmp rfl]
            unfold erv
            go_simp
          · exact nd_err HX.out rfl HFR.out.drew
end Go.Proofs.YtoaedkinlnkkhaaDoor
