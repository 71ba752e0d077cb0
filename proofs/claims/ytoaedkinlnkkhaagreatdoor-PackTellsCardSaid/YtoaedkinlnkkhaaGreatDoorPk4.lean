/- The contract of the document's reading.node. Condition: the reading is there. -/
import Derived.Test.YtoaedkinlnkkhaaGreatDoorPk3
namespace Go.Proofs.YtoaedkinlnkkhaaGreatDoor
open Go.RowKit

/-- What a reading's node says and leaves. -/
def NrPost (X : Got) (p : Nat) (S : ByteArray) (w : World) (e : Ending) (w' : World) : Prop :=
  (match X with
   | .error n => e = .returned (.tuple #[.agg #[.string ⟨#[]⟩, .string ⟨#[]⟩, .bool false, .slice none 0 0], .int .i64 (n : Int)])
   | .ok (x, c, r) => ∃ (kd da : ByteArray) (ex : Bool) (a : Option Addr) (cap : Nat) (ks : List (ByteArray × Lt)) (b : Nat), e = .returned (.tuple #[.agg #[.string kd, .string da, .bool ex, .slice a ks.length cap], .int .i64 0]) ∧
      (Tr.mk kd da ex (.slice a ks.length cap) ks : Lt).bare = x ∧ (Tr.mk kd da ex (.slice a ks.length cap) ks : Lt).Ok w' ∧ (Tr.mk kd da ex (.slice a ks.length cap) ks : Lt).In (fun b => w.heap.size ≤ b ∧ b < w'.heap.size) ∧ b ≤ S.size ∧ S.data.toList.drop b = r ∧ RgAt w' p S b c) ∧ Fr (fun b => b = p) w w'

theorem nr_ok {w w2 w5 : World} {x : Nd} {c2 p a2 : Nat} {S : ByteArray} {kd da : ByteArray} {ex : Bool} {xa : Option Addr} {xc : Nat} {ks' : List (ByteArray × Lt)} (hbr : (Tr.mk kd da ex (.slice xa ks'.length xc) ks' : Lt).bare = x) (hok : (Tr.mk kd da ex (.slice xa ks'.length xc) ks' : Lt).Ok w5)
    (hin : (Tr.mk kd da ex (.slice xa ks'.length xc) ks' : Lt).In (fun b => w2.heap.size ≤ b ∧ b < w5.heap.size)) (h : RgAt w5 p S a2 c2) (hle : w.heap.size < w2.heap.size) (hp : p < w.heap.size) (x0 x1 x2 x3 : Value) :
    (Tr.mk kd da ex (.slice xa ks'.length xc) ks' : Lt).bare = x ∧ (Tr.mk kd da ex (.slice xa ks'.length xc) ks' : Lt).Ok ((((w5.setCell ⟨w.heap.size, 0, none⟩ x0).setCell ⟨w.heap.size, 1, none⟩ x1).setCell ⟨w.heap.size, 2, none⟩ x2).setCell ⟨w.heap.size, 3, none⟩ x3) ∧
    (Tr.mk kd da ex (.slice xa ks'.length xc) ks' : Lt).In (fun b => w.heap.size ≤ b ∧ b < ((((w5.setCell ⟨w.heap.size, 0, none⟩ x0).setCell ⟨w.heap.size, 1, none⟩ x1).setCell ⟨w.heap.size, 2, none⟩ x2).setCell ⟨w.heap.size, 3, none⟩ x3).heap.size) ∧
    RgAt ((((w5.setCell ⟨w.heap.size, 0, none⟩ x0).setCell ⟨w.heap.size, 1, none⟩ x1).setCell ⟨w.heap.size, 2, none⟩ x2).setCell ⟨w.heap.size, 3, none⟩ x3) p S a2 c2 := by
  have hF := (Fr.refl (fun b => b = w.heap.size) w5).set4 (p := w.heap.size) (.inl rfl) x0 x1 x2 x3
  exact ⟨hbr, ok_fr hF _ hok (in_mono (fun b hb e => by omega) _ hin), in_mono (fun b hb => ⟨by omega, Nat.lt_of_lt_of_le hb.2 hF.size⟩) _ hin, h.fr hF (fun e => by omega)⟩
theorem nr_err {X : Got} {p n : Nat} {S : ByteArray} {w w' : World} (hX : X = .error n) (hF : Fr (fun b => b = p) w w') :
    NrPost X p S w (.returned (.tuple #[.agg #[.string ⟨#[]⟩, .string ⟨#[]⟩, .bool false, .slice none 0 0], .int .i64 (n : Int)])) w' := by
  subst hX
  exact ⟨rfl, hF⟩

/-- What stands while dir goes. -/
structure RrI (g : Nat → List UInt8 → Got) (n c0 : Nat) (l0 : List UInt8) (w : World) (q p : Nat) (S : ByteArray) (i : Nat) (ls : List (ByteArray × Lt)) (v : Value) (a c : Nat) (W : World) : Prop where
  bz : Blk W w.heap.size [.string ⟨#[]⟩, .string ⟨#[]⟩, .bool false, .slice none 0 0] 24
  bn : Blk W (q) [.string ⟨#[100, 105, 114]⟩, .string ⟨#[]⟩, .bool false, v] 24
  rd : RgAt W p S a c
  ow : Ow (fun g => q + 1 ≤ g) W 58 5 v ls.length (kcells ls)
  ok : Oks W ls
  ins : InS (fun b => q + 1 ≤ b ∧ b < W.heap.size ∧ v.ownBlock ≠ some b) ls
  nm : ∀ x ∈ ls, x.1.size ≤ 140737488351232
  fr : Fr (fun b => b = p) w W
  st : kidsP g n c0 l0 = preK (ls.map fun x => (x.1, x.2.bare)) (kidsP g (n - i) c (S.data.toList.drop a))
  hi : i ≤ n
  hl : ls.length = i
  ha : a ≤ S.size
  hq : w.heap.size < q
  hc : c ≤ 200

/-- What stands behind a kid's call, and behind the append. -/
theorem rr_mid {g : Nat → List UInt8 → Got} {n c0 : Nat} {l0 : List UInt8} {w : World} {q p i : Nat} {ls : List (ByteArray × Lt)} {v : Value} {S : ByteArray} {a c : Nat} {wr w2 w3 : World} (hI : RrI g n c0 l0 w q p S i ls v a c wr) (hp : p < w.heap.size)
    (hf2 : Fr (fun b => b = p) wr w2) (hf3 : Fr (fun b => b = p) w2 w3) (o : Obj) :
    Blk (w3.alloc o) w.heap.size [.string ⟨#[]⟩, .string ⟨#[]⟩, .bool false, .slice none 0 0] 24 ∧ Blk (w3.alloc o) (q) [.string ⟨#[100, 105, 114]⟩, .string ⟨#[]⟩, .bool false, v] 24 ∧
    Ow (fun g => q + 1 ≤ g) (w3.alloc o) 58 5 v ls.length (kcells ls) ∧ Oks (w3.alloc o) ls ∧ Fr (fun b => b = p) w (w3.alloc o) ∧ Fr (fun b => b = p) wr (w3.alloc o) := by
  have hF : Fr (fun b => b = p) wr (w3.alloc o) := (hf2.trans hf3).alloc o
  have hq := hI.hq
  have hqr := hI.bn.lt
  exact ⟨hI.bz.fr hF (by omega), hI.bn.fr hF (by omega), hI.ow.frF hF (fun k hk e => by omega), oks_fr hF ls hI.ok (inS_mono (fun b hb e => by omega) ls hI.ins), hI.fr.trans hF, hF⟩

theorem rr_step {g : Nat → List UInt8 → Got} {n c0 : Nat} {l0 : List UInt8} {w : World} {q p i : Nat} {ls : List (ByteArray × Lt)} {v v' : Value} {S : ByteArray} {a c : Nat} {wr w2 w3 w5 : World} (hI : RrI g n c0 l0 w q p S i ls v a c wr) (hp : p < w.heap.size)
    (hf2 : Fr (fun b => b = p) wr w2) (hf3 : Fr (fun b => b = p) w2 w3) {s : ByteArray} {t : Lt} {r2 : List UInt8} {c2 : Nat} {o o2 : Obj}
    (hok : t.Ok w3) (hin : t.In (fun b => w2.heap.size ≤ b ∧ b < w3.heap.size)) {a2 : Nat} (h3 : RgAt w3 p S a2 c2) (ha2 : a2 ≤ S.size) (hr2e : S.data.toList.drop a2 = r2) (hlt : i < n) (hs : s.size ≤ 4000000) (hc2 : c2 ≤ 200)
    (hst : kidsP g n c0 l0 = preK (ls.map fun x => (x.1, x.2.bare)) (preK [(s, t.bare)] (kidsP g (n - (i + 1)) c2 r2)))
    (hg : ((w3.alloc o).alloc o2).grownBy w5 v.ownBlock)
    (hown : Ow (fun g => w3.heap.size + 1 ≤ g ∨ v.ownBlock = some g) w5 58 5 v' (ls.length + 1) (kcells ls ++ kcells [(s, t)])) :
    Blk w5 (q) [.string ⟨#[100, 105, 114]⟩, .string ⟨#[]⟩, .bool false, v] 24 ∧ RrI g n c0 l0 w q p S (i + 1) (ls ++ [(s, t)]) v' a2 c2 (w5.setCell ⟨q, 3, none⟩ v') := by
  obtain ⟨hz4, hn4, ho4, hk4, hF4, hFr4⟩ := rr_mid hI hp hf2 hf3 o
  have hb4 := ho4.blk
  have hq := hI.hq
  have hF5 : Fr (fun b => v.ownBlock = some b) (w3.alloc o) w5 := ((Fr.refl _ _).alloc o2).grown hg (fun b hb => .inl hb)
  have hrl : ∀ b, v.ownBlock = some b → b < wr.heap.size := fun b hb => (hI.ow.blk b hb).2
  have hsr := hI.fr.size
  have hs2 := hf2.size
  have hs3 := hf3.size
  have hn1 := hI.bn.lt
  have hs4 : (w3.alloc o).heap.size = w3.heap.size + 1 := by simp
  have hs5 := hF5.size
  have hbw := hown.blk
  have hn5 := hn4.fr hF5 (fun e => by have := (hb4 _ e).1; omega)
  have hz5 := hz4.fr hF5 (fun e => by have := (hb4 _ e).1; omega)
  have hr5 : RgAt w5 p S a2 c2 := (h3.alloc o).fr hF5 (fun e => by have := (hb4 _ e).1; omega)
  have hF6 : Fr (fun b => b = q) w5 (w5.setCell ⟨q, 3, none⟩ v') := (Fr.refl (fun b => b = q) w5).setCell (p := ⟨q, 3, none⟩) (.inl rfl) v'
  have hO5 : Oks w5 (ls ++ [(s, t)]) := by
    rw [oks_iff]
    intro x hx
    rcases List.mem_append.1 hx with h | h
    · exact ok_fr hF5 x.2 (oks_iff.1 hk4 x h) (in_mono (fun b hb => hb.2.2) x.2 (inS_iff.1 hI.ins x h))
    · simp only [List.mem_cons, List.not_mem_nil, or_false] at h
      subst h
      exact ok_fr hF5 t (hok.alloc o) (in_mono (fun b hb e => by have := hrl b e; omega) t hin)
  have hI5 : InS (fun b => q + 1 ≤ b ∧ b < w5.heap.size ∧ v'.ownBlock ≠ some b) (ls ++ [(s, t)]) := by
    rw [inS_iff]
    intro x hx
    rcases List.mem_append.1 hx with h | h
    · refine in_mono (fun b hb => ⟨hb.1, by omega, fun e => ?_⟩) x.2 (inS_iff.1 hI.ins x h)
      rcases (hbw b e).1 with h1 | h1
      · omega
      · exact hb.2.2 h1
    · simp only [List.mem_cons, List.not_mem_nil, or_false] at h
      subst h
      refine in_mono (fun b hb => ⟨by omega, by omega, fun e => ?_⟩) t hin
      rcases (hbw b e).1 with h1 | h1
      · omega
      · have := hrl b h1; omega
  refine ⟨hn5, hz5.other (a := ⟨q, 3, none⟩) (by simp; omega) v', hn5.set 3 v', hr5.other (a := ⟨q, 3, none⟩) (by simp; omega) v', ?_, oks_fr hF6 _ hO5 (inS_mono (fun b hb e => by omega) _ hI5), ?_, ?_, ?_, ?_, by omega, ?_, ha2, hI.hq, hc2⟩
  · have h1 : Ow (fun g => q + 1 ≤ g) w5 58 5 v' (ls ++ [(s, t)]).length (kcells (ls ++ [(s, t)])) := by
      rw [kcells_app, List.length_append]
      exact hown.mono (fun g hg => by
        rcases hg with h | h
        · omega
        · exact (hb4 g h).1)
    exact h1.set (a := ⟨q, 3, none⟩) (by simp) v'
  · have hsz : (w5.setCell ⟨q, 3, none⟩ v').heap.size = w5.heap.size := by simp
    rw [hsz]
    exact hI5
  · intro x hx
    rcases List.mem_append.1 hx with h | h
    · exact hI.nm x h
    · simp only [List.mem_cons, List.not_mem_nil, or_false] at h
      subst h
      simp only
      omega
  · exact ((hF4.alloc o2).grown hg (fun k hk => .inr (by have := (hb4 k hk).1; omega))).setCell (p := ⟨q, 3, none⟩) (.inr (by simp; omega)) v'
  · rw [hst, preK_pre, List.map_append, hr2e]; rfl
  · rw [List.length_append, hI.hl]; rfl

theorem rr_end {g : Nat → List UInt8 → Got} {n c0 : Nat} {l0 : List UInt8} {w : World} {q p i : Nat} {ls : List (ByteArray × Lt)} {va : Option Addr} {vc : Nat} {S : ByteArray} {a c : Nat} {wr : World} (hI : RrI g n c0 l0 w q p S i ls (.slice va ls.length vc) a c wr) (hp : p < w.heap.size) (x0 x1 x2 x3 : Value) :
    (Tr.mk kDir ⟨#[]⟩ false (.slice va ls.length vc) ls : Lt).Ok ((((wr.setCell ⟨w.heap.size, 0, none⟩ x0).setCell ⟨w.heap.size, 1, none⟩ x1).setCell ⟨w.heap.size, 2, none⟩ x2).setCell ⟨w.heap.size, 3, none⟩ x3) ∧
    (Tr.mk kDir ⟨#[]⟩ false (.slice va ls.length vc) ls : Lt).In (fun b => w.heap.size ≤ b ∧ b < ((((wr.setCell ⟨w.heap.size, 0, none⟩ x0).setCell ⟨w.heap.size, 1, none⟩ x1).setCell ⟨w.heap.size, 2, none⟩ x2).setCell ⟨w.heap.size, 3, none⟩ x3).heap.size) ∧
    RgAt ((((wr.setCell ⟨w.heap.size, 0, none⟩ x0).setCell ⟨w.heap.size, 1, none⟩ x1).setCell ⟨w.heap.size, 2, none⟩ x2).setCell ⟨w.heap.size, 3, none⟩ x3) p S a c := by
  have hq := hI.hq
  have hF := (Fr.refl (fun b => b = w.heap.size) wr).set4 (p := w.heap.size) (.inl rfl) x0 x1 x2 x3
  have hO := hI.ow.frF hF (fun k hk e => by omega)
  refine ⟨Tr.Ok.mk' hO.sl hI.nm (oks_iff.1 (oks_fr hF ls hI.ok (inS_mono (fun b hb e => by omega) ls hI.ins))), ?_, ?_⟩
  · rw [Tr.In]
    refine ⟨fun _ b hb => ?_, inS_mono (fun b hb => ⟨by omega, Nat.lt_of_lt_of_le hb.2.1 hF.size⟩) ls hI.ins⟩
    have hb2 := hO.blk b hb
    exact ⟨by omega, hb2.2⟩
  · exact hI.rd.fr hF (fun e => by omega)

set_option maxRecDepth 100000 in
set_option maxHeartbeats 40000000 in
theorem nodeR_any (p : Nat) (S : ByteArray) (hs : S.size ≤ 4000000) : ∀ (f deep c a : Nat) (w : World), deep + f = 9 → c ≤ 200 → RgAt w p S a c → a ≤ S.size →
    Calls Tryz.prog 40 #[.pointer (some ⟨p, 0, none⟩), .int .i64 (deep : Int)] w (NrPost (nodeP f c (S.data.toList.drop a)) p S w) := by
  intro f
  induction f with
  | zero =>
    intro deep c a w hd hc h ha
    obtain rfl : deep = 9 := by omega
    clear hd
    have hpw := h.lt
    have x2 := h.cell (i := 2) rfl
    have x2' := (Blk.alloc h (.cells #[.string ⟨#[]⟩, .string ⟨#[]⟩, .bool false, .slice none 0 0] 24)).cell (i := 2) rfl
    have z2 := h.frozen 2
    have z2' := (Blk.alloc h (.cells #[.string ⟨#[]⟩, .string ⟨#[]⟩, .bool false, .slice none 0 0] 24)).frozen 2
    have q1 : IntKind.i64.wrap ((c : Int) + 1) = (c : Int) + 1 := i64_in _ (by omega)
    have hr2 : RgAt ((w.setCell ⟨p, 2, none⟩ (.int .i64 ((c : Int) + 1))).alloc (.cells #[.string ⟨#[]⟩, .string ⟨#[]⟩, .bool false, .slice none 0 0] 24)) p S a (c + 1) := Blk.alloc (Blk.set h 2 (.int .i64 ((c : Int) + 1))) _
    have hz2 := Blk.new (w.setCell ⟨p, 2, none⟩ (.int .i64 ((c : Int) + 1))) [.string ⟨#[]⟩, .string ⟨#[]⟩, .bool false, .slice none 0 0] 24
    rw [show (w.setCell ⟨p, 2, none⟩ (.int .i64 ((c : Int) + 1))).heap.size = w.heap.size by simp] at hz2
    have hF2 := ((Fr.refl (fun b => b = p) w).setCell (p := ⟨p, 2, none⟩) (.inl rfl) (.int .i64 ((c : Int) + 1))).alloc (.cells #[.string ⟨#[]⟩, .string ⟨#[]⟩, .bool false, .slice none 0 0] 24)
    have hs2 : ((w.setCell ⟨p, 2, none⟩ (.int .i64 ((c : Int) + 1))).alloc (.cells #[.string ⟨#[]⟩, .string ⟨#[]⟩, .bool false, .slice none 0 0] 24)).heap.size = w.heap.size + 1 := by simp
    clear h
    go_enter Tryz.func40, Tryz.ntmps40
    go_upto_region 2 with fail
    clear x2 x2' z2 z2'
    generalize (w.setCell ⟨p, 2, none⟩ (.int .i64 ((c : Int) + 1))).alloc (.cells #[.string ⟨#[]⟩, .string ⟨#[]⟩, .bool false, .slice none 0 0] 24) = w2 at *
    have x2 : w2.cell? ⟨p, 2, none⟩ = some (.int .i64 ((c : Int) + 1)) := hr2.cell (i := 2) rfl
    have x0 := hr2.cell (i := 0) rfl
    have x1 := hr2.cell (i := 1) rfl
    have y0 := hz2.cell (i := 0) rfl
    have y1 := hz2.cell (i := 1) rfl
    have y2 := hz2.cell (i := 2) rfl
    have y3 := hz2.cell (i := 3) rfl
    have f0 := hz2.frozen 0
    have f1 := hz2.frozen 1
    have f2 := hz2.frozen 2
    have f3 := hz2.frozen 3
    have s4 := hz2.set4 (x0 := (Value.string ⟨#[]⟩)) (x1 := (Value.string ⟨#[]⟩)) (x2 := (Value.bool false)) (x3 := (Value.slice none 0 0))
    have r0 := s4.cell (i := 0) rfl
    have r1 := s4.cell (i := 1) rfl
    have r2 := s4.cell (i := 2) rfl
    have r3 := s4.cell (i := 3) rfl
    have HFR := hidd (hF2.set4 (p := w.heap.size) (.inr (Nat.le_refl _)) ((Value.string ⟨#[]⟩)) ((Value.string ⟨#[]⟩)) ((Value.bool false)) ((Value.slice none 0 0)))
    have HX := hidd (show nodeP 0 c (S.data.toList.drop a) = .error 9 from by rw [nodeP])
    clear s4 hz2 hF2 
    go_wp2_with fail
    refine bodyPost_ret (v := .tuple #[.agg #[.string ⟨#[]⟩, .string ⟨#[]⟩, .bool false, .slice none 0 0], .int .i64 9]) ?_ rfl ?_
    · rw [results_cell_tmp rfl]
      go_simp
    · exact nr_err HX.out HFR.out
  | succ f ih =>
    intro deep c a w hd hc h ha
    have z8 : decide ((8 : Int) < (deep : Int)) = false := decide_eq_false (by omega)
    have z8' : decide (8 < deep) = false := decide_eq_false (by omega)
    have hd8 : deep ≤ 8 := by omega
    have HD := hidd hd
    clear hd
    have hpw := h.lt
    have x2 := h.cell (i := 2) rfl
    have x2' := (Blk.alloc h (.cells #[.string ⟨#[]⟩, .string ⟨#[]⟩, .bool false, .slice none 0 0] 24)).cell (i := 2) rfl
    have z2 := h.frozen 2
    have z2' := (Blk.alloc h (.cells #[.string ⟨#[]⟩, .string ⟨#[]⟩, .bool false, .slice none 0 0] 24)).frozen 2
    have q1 : IntKind.i64.wrap ((c : Int) + 1) = (c : Int) + 1 := i64_in _ (by omega)
    have hr2 : RgAt ((w.setCell ⟨p, 2, none⟩ (.int .i64 ((c : Int) + 1))).alloc (.cells #[.string ⟨#[]⟩, .string ⟨#[]⟩, .bool false, .slice none 0 0] 24)) p S a (c + 1) := Blk.alloc (Blk.set h 2 (.int .i64 ((c : Int) + 1))) _
    have hz2 := Blk.new (w.setCell ⟨p, 2, none⟩ (.int .i64 ((c : Int) + 1))) [.string ⟨#[]⟩, .string ⟨#[]⟩, .bool false, .slice none 0 0] 24
    rw [show (w.setCell ⟨p, 2, none⟩ (.int .i64 ((c : Int) + 1))).heap.size = w.heap.size by simp] at hz2
    have hF2 := ((Fr.refl (fun b => b = p) w).setCell (p := ⟨p, 2, none⟩) (.inl rfl) (.int .i64 ((c : Int) + 1))).alloc (.cells #[.string ⟨#[]⟩, .string ⟨#[]⟩, .bool false, .slice none 0 0] 24)
    have hs2 : ((w.setCell ⟨p, 2, none⟩ (.int .i64 ((c : Int) + 1))).alloc (.cells #[.string ⟨#[]⟩, .string ⟨#[]⟩, .bool false, .slice none 0 0] 24)).heap.size = w.heap.size + 1 := by simp
    clear h
    go_enter Tryz.func40, Tryz.ntmps40
    go_upto_region 2 with fail
    clear x2 x2' z2 z2'
    generalize (w.setCell ⟨p, 2, none⟩ (.int .i64 ((c : Int) + 1))).alloc (.cells #[.string ⟨#[]⟩, .string ⟨#[]⟩, .bool false, .slice none 0 0] 24) = w2 at *
    have x2 : w2.cell? ⟨p, 2, none⟩ = some (.int .i64 ((c : Int) + 1)) := hr2.cell (i := 2) rfl
    have x0 := hr2.cell (i := 0) rfl
    have x1 := hr2.cell (i := 1) rfl
    have HN := hidd (nodeP_step f c (S.data.toList.drop a))
    by_cases h200 : c = 200
    · have H200 := hidd h200
      have z2 : decide ((200 : Int) < (c : Int) + 1) = true := decide_eq_true (by omega)
      have z2' : decide (200 < c + 1) = true := decide_eq_true (by omega)
      have y0 := hz2.cell (i := 0) rfl
      have y1 := hz2.cell (i := 1) rfl
      have y2 := hz2.cell (i := 2) rfl
      have y3 := hz2.cell (i := 3) rfl
      have f0 := hz2.frozen 0
      have f1 := hz2.frozen 1
      have f2 := hz2.frozen 2
      have f3 := hz2.frozen 3
      have s4 := hz2.set4 (x0 := (Value.string ⟨#[]⟩)) (x1 := (Value.string ⟨#[]⟩)) (x2 := (Value.bool false)) (x3 := (Value.slice none 0 0))
      have r0 := s4.cell (i := 0) rfl
      have r1 := s4.cell (i := 1) rfl
      have r2 := s4.cell (i := 2) rfl
      have r3 := s4.cell (i := 3) rfl
      have HFR := hidd (hF2.set4 (p := w.heap.size) (.inr (Nat.le_refl _)) ((Value.string ⟨#[]⟩)) ((Value.string ⟨#[]⟩)) ((Value.bool false)) ((Value.slice none 0 0)))
      have HX := hidd (show nodeP (f + 1) c (S.data.toList.drop a) = .error 8 from by rw [HN.out, if_pos (by omega)])
      clear s4 hz2 hF2 ih h200 HN
      go_wp2_with fail
      refine bodyPost_ret (v := .tuple #[.agg #[.string ⟨#[]⟩, .string ⟨#[]⟩, .bool false, .slice none 0 0], .int .i64 8]) ?_ rfl ?_
      · rw [results_cell_tmp rfl]
        go_simp
      · exact nr_err HX.out HFR.out
    · have z2 : decide ((200 : Int) < (c : Int) + 1) = false := decide_eq_false (by omega)
      have z2' : decide (200 < c + 1) = false := decide_eq_false (by omega)
      have HN : Hid (nodeP (f + 1) c (S.data.toList.drop a) = _) := hidd (HN.out.trans (if_neg (by omega)))
      go_upto_region 6 with fail
      by_cases h0 : S.size ≤ a
      · have e1 : decide ((S.size : Int) ≤ (a : Int)) = true := decide_eq_true (by omega)
        have e1' : decide (S.size ≤ a) = true := decide_eq_true h0
        have hN0 : Hid (nodeP (f + 1) c (S.data.toList.drop a) = .error 1) := hidd (by rw [HN.out, List.drop_of_length_le (by rw [size_toList]; exact h0)])
        go_quiet (fail)
        have hz3 := hz2.drewN nq
        have hF3 := hF2.drewN nq
        clear hz2 hF2 x0 x1 x2 hr2 ih
        generalize w2.drewN nq = w3 at *
        have y0 := hz3.cell (i := 0) rfl
        have y1 := hz3.cell (i := 1) rfl
        have y2 := hz3.cell (i := 2) rfl
        have y3 := hz3.cell (i := 3) rfl
        have f0 := hz3.frozen 0
        have f1 := hz3.frozen 1
        have f2 := hz3.frozen 2
        have f3 := hz3.frozen 3
        have s4 := hz3.set4 (x0 := (Value.string ⟨#[]⟩)) (x1 := (Value.string ⟨#[]⟩)) (x2 := (Value.bool false)) (x3 := (Value.slice none 0 0))
        have r0 := s4.cell (i := 0) rfl
        have r1 := s4.cell (i := 1) rfl
        have r2 := s4.cell (i := 2) rfl
        have r3 := s4.cell (i := 3) rfl
        have HFR := hidd (hF3.set4 (p := w.heap.size) (.inr (Nat.le_refl _)) ((Value.string ⟨#[]⟩)) ((Value.string ⟨#[]⟩)) ((Value.bool false)) ((Value.slice none 0 0)))
        have HX := hidd (hN0.out)
        clear s4 hz3 hF3 HN h200 hN0
        go_wp2_with fail
        refine bodyPost_ret (v := .tuple #[.agg #[.string ⟨#[]⟩, .string ⟨#[]⟩, .bool false, .slice none 0 0], .int .i64 1]) ?_ rfl ?_
        · rw [results_cell_tmp rfl]
          go_simp
        · exact nr_err HX.out HFR.out
      · have e1 : decide ((S.size : Int) ≤ (a : Int)) = false := decide_eq_false (by omega)
        have e1' : decide (S.size ≤ a) = false := decide_eq_false h0
        go_quiet (fail)
        have hz3 := hz2.drewN nq
        have hr3 : RgAt (w2.drewN nq) p S a (c + 1) := hr2.drewN nq
        have hF3 := hF2.drewN nq
        have hs3 : (w2.drewN nq).heap.size = w.heap.size + 1 := hs2
        clear hz2 hF2 x0 x1 x2 hr2
        generalize w2.drewN nq = w3 at *
        have x0 := hr3.cell (i := 0) rfl
        have x1 := hr3.cell (i := 1) rfl
        have p0 : (0 : Int) ≤ (a : Int) := by omega
        have p1 : (a : Int) < (S.size : Int) := by omega
        have p2 : a < S.size := by omega
        obtain ⟨y, hy⟩ : ∃ y, S[a] = y := ⟨_, rfl⟩
        have hl : S.data.toList.drop a = y :: S.data.toList.drop (a + 1) := by
          have hsz := size_toList S
          rw [List.drop_eq_getElem_cons (l := S.data.toList) (i := a) (by omega), ← hy]; rfl
        have HN : Hid (nodeP (f + 1) c (S.data.toList.drop a) = if y = 100 then dirP (nodeP f) (c + 1) (S.data.toList.drop (a + 1)) else if y = 108 ∨ y = 102 ∨ y = 120 then leafP y (c + 1) (S.data.toList.drop (a + 1)) else .error 1) := hidd (by rw [HN.out, hl])
        clear hl
        go_upto_region 8 with fail
        go_quiet (fail)
        have hz4 := hz3.drewN nq
        have hr4 : RgAt (w3.drewN nq) p S a (c + 1) := hr3.drewN nq
        have hF4 := hF3.drewN nq
        have hs4 : (w3.drewN nq).heap.size = w.heap.size + 1 := hs3
        clear hz3 hF3 hr3 x0 x1 hs3 hs2
        generalize w3.drewN nq = w4 at *
        have x0 := hr4.cell (i := 0) rfl
        have x1 := hr4.cell (i := 1) rfl
        have z1 := hr4.frozen 1
        have q2 : IntKind.i64.wrap ((a : Int) + 1) = (a : Int) + 1 := i64_in _ (by omega)
        have hr5 : RgAt (w4.setCell ⟨p, 1, none⟩ (.int .i64 ((a : Int) + 1))) p S (a + 1) (c + 1) := Blk.set hr4 1 (.int .i64 ((a : Int) + 1))
        have hz5 := hz4.other (a := ⟨p, 1, none⟩) (by simp; omega) (.int .i64 ((a : Int) + 1))
        have hF5 := hF4.setCell (p := ⟨p, 1, none⟩) (.inl rfl) (.int .i64 ((a : Int) + 1))
        have hs5 : (w4.setCell ⟨p, 1, none⟩ (.int .i64 ((a : Int) + 1))).heap.size = w.heap.size + 1 := by simp [hs4]
        clear hz4 hF4 hr4
        go_upto_region 10 with fail
        clear x0 x1 z1 hs4
        generalize w4.setCell ⟨p, 1, none⟩ (.int .i64 ((a : Int) + 1)) = w5 at *
        obtain ⟨q, hq⟩ : ∃ q, w5.heap.size = q := ⟨_, rfl⟩
        have hql : w.heap.size < q := by omega
        have HQ0 := hidd hs5
        have HIH := hidd ih
        have h200' : c + 1 ≤ 200 := by omega
        have ha1 : a + 1 ≤ S.size := p2
        clear hs5 ih h200 z2 z2' z8 z8' e1 e1' hy h0 p0 p1 p2
        by_cases k : y = 100
        · have k100 := hidd k
          have e100 : ((y.toNat : Int) == 100) = true := by rw [k]; rfl
          have e108 : ((y.toNat : Int) == 108) = false := by rw [k]; rfl
          have e102 : ((y.toNat : Int) == 102) = false := by rw [k]; rfl
          have e120 : ((y.toNat : Int) == 120) = false := by rw [k]; rfl
          have e9 : ((y.toNat : Int) != 100) = false := by rw [bne, e100]; rfl
          have hr6 : RgAt (w5.alloc (.cells #[.string ⟨#[100, 105, 114]⟩, .string ⟨#[]⟩, .bool false, .slice none 0 0] 24)) p S (a + 1) (c + 1) := Blk.alloc hr5 _
          have hz6 := hz5.alloc (.cells #[.string ⟨#[100, 105, 114]⟩, .string ⟨#[]⟩, .bool false, .slice none 0 0] 24)
          have hF6 := hF5.alloc (.cells #[.string ⟨#[100, 105, 114]⟩, .string ⟨#[]⟩, .bool false, .slice none 0 0] 24)
          have hl6 := Blk.new w5 [.string ⟨#[100, 105, 114]⟩, .string ⟨#[]⟩, .bool false, .slice none 0 0] 24
          rw [hq] at hl6
          have HNX : Hid (nodeP (f + 1) c (S.data.toList.drop a) = dirP (nodeP f) (c + 1) (S.data.toList.drop (a + 1))) := hidd (HN.out.trans (if_pos k))
          have hs6 : (w5.alloc (.cells #[.string ⟨#[100, 105, 114]⟩, .string ⟨#[]⟩, .bool false, .slice none 0 0] 24)).heap.size = q + 1 := by simp [hq]
          clear hr5 hz5 hF5 k HN
          go_upto_region 26 with fail
          generalize w5.alloc (.cells #[.string ⟨#[100, 105, 114]⟩, .string ⟨#[]⟩, .bool false, .slice none 0 0] 24) = w6 at *
          have x0 := hr6.cell (i := 0) rfl
          have x1 := hr6.cell (i := 1) rfl
          have hrd : RgAt w6.drew p S (a + 1) (c + 1) := hr6
          have x0' := hrd.cell (i := 0) rfl
          have x1' := hrd.cell (i := 1) rfl
          have q5 : q < w6.heap.size := hl6.lt
          have HS6 := hidd hs6
          clear hs6 hq
          cases hP : numP (S.data.toList.drop (a + 1)) with
          | none =>
            have HP := hidd hP
            have HX0 : Hid (nodeP (f + 1) c (S.data.toList.drop a) = .error 1) := hidd (by rw [HNX.out]; unfold dirP; rw [hP])
            clear hP
            go_region_held3 (fun W => W = w6.drew)
              (first | rfl | assumption)
              ((go_at_call 63; refine (head_no S (a + 1) _ hs ha1 HP.out).mono ?_; rintro e w' ⟨⟨b, rfl⟩, rfl⟩))
            have hz7 := hz6.drew
            have hF7 := hF6.drew
            clear hz6 hF6 hr6 hrd x0 x1 x0' x1' hl6
            generalize w6.drew = w7 at *
            have y0 := hz7.cell (i := 0) rfl
            have y1 := hz7.cell (i := 1) rfl
            have y2 := hz7.cell (i := 2) rfl
            have y3 := hz7.cell (i := 3) rfl
            have f0 := hz7.frozen 0
            have f1 := hz7.frozen 1
            have f2 := hz7.frozen 2
            have f3 := hz7.frozen 3
            have s4 := hz7.set4 (x0 := (Value.string ⟨#[]⟩)) (x1 := (Value.string ⟨#[]⟩)) (x2 := (Value.bool false)) (x3 := (Value.slice none 0 0))
            have r0 := s4.cell (i := 0) rfl
            have r1 := s4.cell (i := 1) rfl
            have r2 := s4.cell (i := 2) rfl
            have r3 := s4.cell (i := 3) rfl
            have HFR := hidd (hF7.set4 (p := w.heap.size) (.inr (Nat.le_refl _)) ((Value.string ⟨#[]⟩)) ((Value.string ⟨#[]⟩)) ((Value.bool false)) ((Value.slice none 0 0)))
            have HX := hidd (HX0.out)
            clear s4 hz7 hF7 HNX HP
            go_wp2_with fail
            refine bodyPost_ret (v := .tuple #[.agg #[.string ⟨#[]⟩, .string ⟨#[]⟩, .bool false, .slice none 0 0], .int .i64 1]) ?_ rfl ?_
            · rw [results_cell_tmp rfl]
              go_simp
            · exact nr_err HX.out HFR.out
          | some x =>
            obtain ⟨n, r⟩ := x
            obtain ⟨b, hb, hdr, hC⟩ := head_is S (a + 1) hs ha1 hP
            obtain ⟨n9, -, -⟩ := numP_lt hP
            have HNO : Hid (nodeP (f + 1) c (S.data.toList.drop a) = match kidsP (nodeP f) n (c + 1) r with
              | .error e => .error e
              | .ok (ks, c', r') => .ok (.mk kDir ⟨#[]⟩ false () ks, c', r')) := hidd (by rw [HNX.out]; unfold dirP; rw [hP]; rfl)
            have HC := hidd hC
            have g1 : decide ((n : Int) < 0) = false := decide_eq_false (by omega)
            have g2 : ¬ ((n : Int) < 0) := by omega
            have HDR := hidd hdr
            clear hP hC hdr HNX
            go_region_held3 (fun W => W = w6.drew)
              (first | rfl | assumption)
              ((go_at_call 63; refine (HC.out _).mono ?_; rintro e w' ⟨rfl, rfl⟩))
            have hz7 := hz6.drew
            have hl7 := hl6.drew
            have hF7 := hF6.drew
            have hs7 : w6.drew.heap.size = q + 1 := HS6.out
            clear hz6 hF6 hr6 x0 x1 hl6 q5 HC
            generalize w6.drew = w7 at *
            have z1 := hrd.frozen 1
            have h8 : RgAt (w7.setCell ⟨p, 1, none⟩ (.int .i64 (b : Int))) p S b (c + 1) := Blk.set hrd 1 (.int .i64 (b : Int))
            have hz8 := hz7.other (a := ⟨p, 1, none⟩) (by simp; omega) (.int .i64 (b : Int))
            have hl8 := hl7.other (a := ⟨p, 1, none⟩) (by simp; omega) (.int .i64 (b : Int))
            have hF8 := hF7.setCell (p := ⟨p, 1, none⟩) (.inl rfl) (.int .i64 (b : Int))
            have HI : Hid (RrI (nodeP f) n (c + 1) r w q p S 0 [] (.slice none 0 0) b (c + 1) (w7.setCell ⟨p, 1, none⟩ (.int .i64 (b : Int)))) := hidd ⟨hz8, hl8, h8, Ow.nil _ _ _ _, by rw [Oks]; trivial, by rw [InS]; trivial, fun x hx => by simp at hx, hF8, by rw [HDR.out]; exact (preK_nil _).symm, Nat.zero_le _, rfl, hb, hql, h200'⟩
            clear h8 hz8 hl8 hF8 hz7 hl7 hF7 hs7
            go_wp2_with fail
            clear x0' x1' z1
            go_loopw [12, 13, 14, 15, 16, 17] (fun iv _ _ _ _ _ wr => ∃ (i : Nat) (ls : List (ByteArray × Lt)) (v : Value) (a1 c1 : Nat), iv = .int .i64 (i : Int) ∧ RrI (nodeP f) n (c + 1) r w q p S i ls v a1 c1 wr) (fun iv _ _ _ _ _ _ => n - (intOf iv).toNat)
            case atStart => exact ⟨0, [], _, _, _, rfl, HI.out⟩
            case round =>
              obtain ⟨i, ls, v, a1, c1, rfl, hI⟩ := hrel
              clear HI
              obtain ⟨i0, hii, hz0, hz1, hz2'⟩ := info_parts infoKid
              have hin := hI.hi
              have hln := hI.hl
              have hsz := hI.fr.size
              have p1 : (0 : Int) ≤ (i : Int) := by omega
              obtain ⟨va, vc, rfl⟩ := hI.ow.shape
              by_cases hlt : i < n
              · have p2 : (i : Int) < (n : Int) := by omega
                have p3 : decide ((i : Int) < (n : Int)) = true := decide_eq_true p2
                have p3' : decide (i < n) = true := decide_eq_true hlt
                obtain ⟨m, hm⟩ : ∃ m, n - i = m + 1 := ⟨n - i - 1, by omega⟩
                have hst := hI.st
                rw [hm, kidsP_step] at hst
                have HC := hidd (bytes_rd p a1 c1 S wr hI.rd hs hI.ha)
                have HI := hidd hI
                have HST := hidd hst
                have HM := hidd hm
                clear hI hst hln hm
                go_wp2_with fail
                refine HC.out.mono ?_
                rintro e w7 ⟨⟨hno, rfl⟩ | ⟨s, r1, b1, hso, hb1, hdr1, rfl, h2⟩, hf2⟩
                · have hz7 := HI.out.bz.fr hf2 (by omega)
                  have hF7 := HI.out.fr.trans hf2
                  have HX0 : Hid (nodeP (f + 1) c (S.data.toList.drop a) = .error 1) := hidd (by
                    have := HST.out
                    rw [hno] at this
                    rw [HNO.out, this]
                    rfl)
                  have y0 := hz7.cell (i := 0) rfl
                  have y1 := hz7.cell (i := 1) rfl
                  have y2 := hz7.cell (i := 2) rfl
                  have y3 := hz7.cell (i := 3) rfl
                  have f0 := hz7.frozen 0
                  have f1 := hz7.frozen 1
                  have f2 := hz7.frozen 2
                  have f3 := hz7.frozen 3
                  have s4 := hz7.set4 (x0 := (Value.string ⟨#[]⟩)) (x1 := (Value.string ⟨#[]⟩)) (x2 := (Value.bool false)) (x3 := (Value.slice none 0 0))
                  have r0 := s4.cell (i := 0) rfl
                  have r1 := s4.cell (i := 1) rfl
                  have r2 := s4.cell (i := 2) rfl
                  have r3 := s4.cell (i := 3) rfl
                  have HFR := hidd (hF7.set4 (p := w.heap.size) (.inr (Nat.le_refl _)) ((Value.string ⟨#[]⟩)) ((Value.string ⟨#[]⟩)) ((Value.bool false)) ((Value.slice none 0 0)))
                  have HX := hidd (HX0.out)
                  clear s4 hz7 hF7 hno hf2 HC HI
                  go_wp2_with fail
                  refine bodyPost_ret (v := .tuple #[.agg #[.string ⟨#[]⟩, .string ⟨#[]⟩, .bool false, .slice none 0 0], .int .i64 1]) ?_ rfl ?_
                  · rw [results_cell_tmp rfl]
                    go_simp
                  · exact nr_err HX.out HFR.out
                · obtain ⟨-, hss⟩ := countedP_lt hso
                  have hcl := HI.out.hc
                  rw [List.length_drop, size_toList] at hss
                  have hST := HST.out
                  rw [hso] at hST
                  simp only at hST
                  have HST := hidd hST
                  have HQ := HIH.out (deep + 1) c1 b1 w7 (by have := HD.out; omega) hcl h2 hb1
                  rw [hdr1] at HQ
                  have HQ := hidd HQ
                  clear hST hso h2 HC hdr1
                  go_wp2_with fail
                  refine HQ.out.mono ?_
                  rintro e w8 ⟨hq8, hf3⟩
                  have hs23 := hf3.size
                  cases hX3 : nodeP f c1 r1 with
                  | error en =>
                    rw [hX3] at hq8
                    simp only at hq8
                    subst hq8
                    have hen : 0 < en := by rcases nodeP_err _ _ _ _ hX3 with h | h | h <;> omega
                    have k1 : decide ((0 : Int) < (en : Int)) = true := decide_eq_true (by omega)
                    have k1' : decide (0 < en) = true := decide_eq_true hen
                    obtain ⟨hz9, -, -, -, hF9, -⟩ := rr_mid HI.out hpw hf2 hf3 (.cells #[.string ⟨#[]⟩, .string ⟨#[]⟩, .bool false, .slice none 0 0] 24)
                    have HX0 : Hid (nodeP (f + 1) c (S.data.toList.drop a) = .error en) := hidd (by
                      have := HST.out
                      rw [hX3] at this
                      rw [HNO.out, this]
                      rfl)
                    clear hX3 hf3 hf2 HST HI HQ
                    go_upto_region 38 with fail
                    generalize w8.alloc (.cells #[.string ⟨#[]⟩, .string ⟨#[]⟩, .bool false, .slice none 0 0] 24) = w9 at *
                    have y0 := hz9.cell (i := 0) rfl
                    have y1 := hz9.cell (i := 1) rfl
                    have y2 := hz9.cell (i := 2) rfl
                    have y3 := hz9.cell (i := 3) rfl
                    have f0 := hz9.frozen 0
                    have f1 := hz9.frozen 1
                    have f2 := hz9.frozen 2
                    have f3 := hz9.frozen 3
                    have s4 := hz9.set4 (x0 := (Value.string ⟨#[]⟩)) (x1 := (Value.string ⟨#[]⟩)) (x2 := (Value.bool false)) (x3 := (Value.slice none 0 0))
                    have r0 := s4.cell (i := 0) rfl
                    have r1 := s4.cell (i := 1) rfl
                    have r2 := s4.cell (i := 2) rfl
                    have r3 := s4.cell (i := 3) rfl
                    have HFR := hidd (hF9.set4 (p := w.heap.size) (.inr (Nat.le_refl _)) ((Value.string ⟨#[]⟩)) ((Value.string ⟨#[]⟩)) ((Value.bool false)) ((Value.slice none 0 0)))
                    have HX := hidd (HX0.out)
                    clear s4 hz9 hF9 
                    go_wp2_with fail
                    refine bodyPost_ret (v := .tuple #[.agg #[.string ⟨#[]⟩, .string ⟨#[]⟩, .bool false, .slice none 0 0], .int .i64 (en : Int)]) ?_ rfl ?_
                    · rw [results_cell_tmp rfl]
                      go_simp
                    · exact nr_err HX.out HFR.out
                  | ok t =>
                    obtain ⟨x, c2, r2⟩ := t
                    rw [hX3] at hq8
                    simp only at hq8
                    obtain ⟨kd, da, ex, xa, xc, ks', b2, rfl, hbr, hok', hin', hb2, hdr2, h3⟩ := hq8
                    obtain ⟨-, hn4, ho4, -, hF4, -⟩ := rr_mid HI.out hpw hf2 hf3 (.cells #[.string kd, .string da, .bool ex, .slice xa ks'.length xc] 24)
                    have hd4 := Blk.new w8 [.string kd, .string da, .bool ex, .slice xa ks'.length xc] 24
                    obtain ⟨-, -, hc2⟩ := nodeP_len _ _ _ _ _ _ hcl hX3
                    have HST2 : Hid (kidsP (nodeP f) n (c + 1) r = preK (ls.map fun x => (x.1, x.2.bare)) (preK [(s, (Tr.mk kd da ex (.slice xa ks'.length xc) ks' : Lt).bare)] (kidsP (nodeP f) (n - (i + 1)) c2 r2))) := hidd (by
                      have := HST.out
                      have hm := HM.out
                      rw [hX3] at this
                      rw [hbr, show n - (i + 1) = m by omega]
                      exact this)
                    have d0 := hd4.cell (i := 0) rfl
                    have d1 := hd4.cell (i := 1) rfl
                    have d2 := hd4.cell (i := 2) rfl
                    have d3 := hd4.cell (i := 3) rfl
                    have b3 := hn4.cell (i := 3) rfl
                    have hs4 : (w8.alloc (.cells #[.string kd, .string da, .bool ex, .slice xa ks'.length xc] 24)).heap.size = w8.heap.size + 1 := by simp
                    have hs1' := Src.new (P := Tryz.prog) (size := 5) (tx := 22) Tryz.underlying22 (w8.alloc (.cells #[.string kd, .string da, .bool ex, .slice xa ks'.length xc] 24)) (w8.alloc (.cells #[.string kd, .string da, .bool ex, .slice xa ks'.length xc] 24)).heap.size rfl [.string s, .string kd, .string da, .bool ex, .slice xa ks'.length xc] 58 rfl (by intro u hu; simp only [List.mem_cons, List.not_mem_nil, or_false] at hu; rcases hu with rfl | rfl | rfl | rfl | rfl <;> rfl) 1
                    have HLN := hidd HI.out.hl
                    have HOK := hidd hok'
                    have HIN := hidd hin'
                    have H3 := hidd h3
                    have HF2 := hidd hf2
                    have HF3 := hidd hf3
                    have HDR2 := hidd hdr2
                    clear hbr hX3 HST HQ hok' hin' h3 hf2 hf3 hF4 hd4 hn4 hdr2
                    have hll : ls.length < n := by rw [HLN.out]; exact hlt
                    rw [hs4] at hs1'
                    go_wp2_with (at_builtin; refine wpList_append_ow _ rfl _ _ 22 22 rfl (fun g => (w8.alloc (.cells #[.string kd, .string da, .bool ex, .slice xa ks'.length xc] 24)).heap.size ≤ g ∨ (Value.slice va ls.length vc).ownBlock = some g) ?cF 58 i0 _ 5 80 Tryz.underlying22 hii hz0 hz1 hz2' rfl (by decide) _ _ _ rfl ((ho4.self.mono (fun g hg => .inr hg)).alloc _) _ _ _ rfl hs1' ?c3 ?c4 ?_)
                    case cF => intro g hg; (try simp at hg); exact .inl (by (try simp); omega)
                    case c3 => unfold maxLen; omega
                    case c4 => omega
                    intro v' w9 hown' hgrow
                    obtain ⟨va', vc', rfl⟩ := hown'.shape
                    obtain ⟨hn5, hI5⟩ := rr_step HI.out hpw HF2.out HF3.out (s := s) (t := .mk kd da ex (.slice xa ks'.length xc) ks') HOK.out HIN.out H3.out hb2 HDR2.out hlt (by omega) hc2 HST2.out hgrow hown'
                    have HI5 := hidd hI5
                    have fz := hn5.frozen 3
                    have b35 := hn5.cell (i := 3) rfl
                    clear hn5 hI5 hown' hgrow ho4 hs1' d0 d1 d2 d3 b3 hs4
                    go_wp2_with fail
                    go_roundw
                    case rel => exact ⟨i + 1, _, _, _, _, by go_num, HI5.out⟩
                    case measure => simp [intOf]; omega
              · have p3 : decide ((i : Int) < (n : Int)) = false := decide_eq_false (by omega)
                have p3' : decide (i < n) = false := decide_eq_false hlt
                have hX : Hid (nodeP (f + 1) c (S.data.toList.drop a) = .ok (.mk kDir ⟨#[]⟩ false () (ls.map fun x => (x.1, x.2.bare)), c1, S.data.toList.drop a1)) := hidd (by
                  rw [HNO.out, hI.st, show n - i = 0 by omega, kidsP]
                  simp [preK])
                have hz9 := hI.bz
                have hn9 := hI.bn
                have hF9 := hI.fr
                have HI := hidd hI
                clear hI HNO hln
                have y0 := hz9.cell (i := 0) rfl
                have y1 := hz9.cell (i := 1) rfl
                have y2 := hz9.cell (i := 2) rfl
                have y3 := hz9.cell (i := 3) rfl
                have f0 := hz9.frozen 0
                have f1 := hz9.frozen 1
                have f2 := hz9.frozen 2
                have f3 := hz9.frozen 3
                have b0 := hn9.cell (i := 0) rfl
                have b1 := hn9.cell (i := 1) rfl
                have b2 := hn9.cell (i := 2) rfl
                have b3 := hn9.cell (i := 3) rfl
                have s4 := hz9.set4 (x0 := (Value.string ⟨#[100, 105, 114]⟩)) (x1 := (Value.string ⟨#[]⟩)) (x2 := (Value.bool false)) (x3 := (Value.slice va ls.length vc))
                have r0 := s4.cell (i := 0) rfl
                have r1 := s4.cell (i := 1) rfl
                have r2 := s4.cell (i := 2) rfl
                have r3 := s4.cell (i := 3) rfl
                have HFR := hidd (hF9.set4 (p := w.heap.size) (.inr (Nat.le_refl _)) ((Value.string ⟨#[100, 105, 114]⟩)) ((Value.string ⟨#[]⟩)) ((Value.bool false)) ((Value.slice va ls.length vc)))
                clear s4 hz9 hn9 hF9
                go_wp2_with fail
                refine bodyPost_ret (v := .tuple #[.agg #[.string ⟨#[100, 105, 114]⟩, .string ⟨#[]⟩, .bool false, .slice va ls.length vc], .int .i64 0]) ?_ rfl ?_
                · rw [results_cell_tmp rfl]
                  go_simp
                · rw [hX.out]
                  obtain ⟨q1, q2, q3⟩ := rr_end HI.out hpw (.string ⟨#[100, 105, 114]⟩) (.string ⟨#[]⟩) (.bool false) (.slice va ls.length vc)
                  exact ⟨⟨kDir, ⟨#[]⟩, false, va, vc, ls, a1, rfl, bare_mk' _ _ _ _ _, q1, q2, HI.out.ha, rfl, q3⟩, HFR.out⟩
        have k100 := k
        clear k
        by_cases k : y = 108
        · clear k100
          have e100 : ((y.toNat : Int) == 100) = false := by rw [k]; rfl
          have e108 : ((y.toNat : Int) == 108) = true := by rw [k]; rfl
          have e102 : ((y.toNat : Int) == 102) = false := by rw [k]; rfl
          have e120 : ((y.toNat : Int) == 120) = false := by rw [k]; rfl
          have e9 : ((y.toNat : Int) != 100) = true := by rw [bne, e100]; rfl
          have hr6 : RgAt (w5.alloc (.cells #[.string ⟨#[108, 105, 110, 107]⟩, .string ⟨#[]⟩, .bool false, .slice none 0 0] 24)) p S (a + 1) (c + 1) := Blk.alloc hr5 _
          have hz6 := hz5.alloc (.cells #[.string ⟨#[108, 105, 110, 107]⟩, .string ⟨#[]⟩, .bool false, .slice none 0 0] 24)
          have hF6 := hF5.alloc (.cells #[.string ⟨#[108, 105, 110, 107]⟩, .string ⟨#[]⟩, .bool false, .slice none 0 0] 24)
          have hl6 := Blk.new w5 [.string ⟨#[108, 105, 110, 107]⟩, .string ⟨#[]⟩, .bool false, .slice none 0 0] 24
          rw [hq] at hl6
          have HNX : Hid (nodeP (f + 1) c (S.data.toList.drop a) = leafP 108 (c + 1) (S.data.toList.drop (a + 1))) := hidd (by rw [HN.out, k, if_neg (by decide), if_pos (by decide)])
          have HC := hidd (bytes_rd p (a + 1) (c + 1) S _ hr6 hs ha1)
          clear hr5 hz5 hF5 k HN hr6
          go_wp2_with fail
          refine HC.out.mono ?_
          rintro e w7 ⟨⟨hno, rfl⟩ | ⟨s, r1, b1, hso, hb1, hdr, rfl, h7⟩, hf7⟩
          · have hz7 := hz6.fr hf7 (by omega)
            have hF7 := hF6.trans hf7
            have y0 := hz7.cell (i := 0) rfl
            have y1 := hz7.cell (i := 1) rfl
            have y2 := hz7.cell (i := 2) rfl
            have y3 := hz7.cell (i := 3) rfl
            have f0 := hz7.frozen 0
            have f1 := hz7.frozen 1
            have f2 := hz7.frozen 2
            have f3 := hz7.frozen 3
            have s4 := hz7.set4 (x0 := (Value.string ⟨#[]⟩)) (x1 := (Value.string ⟨#[]⟩)) (x2 := (Value.bool false)) (x3 := (Value.slice none 0 0))
            have r0 := s4.cell (i := 0) rfl
            have r1 := s4.cell (i := 1) rfl
            have r2 := s4.cell (i := 2) rfl
            have r3 := s4.cell (i := 3) rfl
            have HFR := hidd (hF7.set4 (p := w.heap.size) (.inr (Nat.le_refl _)) ((Value.string ⟨#[]⟩)) ((Value.string ⟨#[]⟩)) ((Value.bool false)) ((Value.slice none 0 0)))
            have HX := hidd (show nodeP (f + 1) c (S.data.toList.drop a) = .error 1 from by rw [HNX.out]; unfold leafP; rw [hno])
            clear s4 hz7 hF7 hno hf7 HNX hz6 hF6 hl6 HC
            go_wp2_with fail
            refine bodyPost_ret (v := .tuple #[.agg #[.string ⟨#[]⟩, .string ⟨#[]⟩, .bool false, .slice none 0 0], .int .i64 1]) ?_ rfl ?_
            · rw [results_cell_tmp rfl]
              go_simp
            · exact nr_err HX.out HFR.out
          · have hz7 := hz6.fr hf7 (by omega)
            have hl7 := hl6.fr hf7 (by omega)
            have hF7 := hF6.trans hf7
            have fl := hl7.frozen 1
            have hz8 := hz7.other (a := ⟨q, 1, none⟩) (by simp; omega) (.string s)
            have hl8 := hl7.set 1 (.string s)
            have hF8 := hF7.setCell (p := ⟨q, 1, none⟩) (.inr (by simp; omega)) (.string s)
            have h8 : RgAt (w7.setCell ⟨q, 1, none⟩ (.string s)) p S b1 (c + 1) := Blk.other h7 (a := ⟨q, 1, none⟩) (by simp; omega) (.string s)
            have HX : Hid (nodeP (f + 1) c (S.data.toList.drop a) = .ok (.mk kLink s false () [], c + 1, r1)) := hidd (by rw [HNX.out]; unfold leafP; rw [hso]; rfl)
            have l0 := hl7.cell (i := 1) rfl
            have HDR := hidd hdr
            clear hso hf7 HNX hz6 hF6 hl6 HC hz7 hF7 hl7 h7 hdr
            generalize hw8 : w7.setCell ⟨q, 1, none⟩ (.string s) = w8 at *
            have b0 := hl8.cell (i := 0) rfl
            have b1' := hl8.cell (i := 1) rfl
            have b2 := hl8.cell (i := 2) rfl
            have b3 := hl8.cell (i := 3) rfl
            have HP := hidd (nr_ok (w := w) (x := .mk kLink s false () []) (kd := kLink) (da := s) (ex := false) (xa := none) (xc := 0) (ks' := []) (w2 := w8) (bare_mk' _ _ _ _ _) (leaf_ok _ _ _ _) (leaf_in _ _ _ _) h8 hz8.lt hpw (.string ⟨#[108, 105, 110, 107]⟩) (.string s) (.bool false) (.slice none 0 0))
            have y0 := hz8.cell (i := 0) rfl
            have y1 := hz8.cell (i := 1) rfl
            have y2 := hz8.cell (i := 2) rfl
            have y3 := hz8.cell (i := 3) rfl
            have f0 := hz8.frozen 0
            have f1 := hz8.frozen 1
            have f2 := hz8.frozen 2
            have f3 := hz8.frozen 3
            have s4 := hz8.set4 (x0 := (Value.string ⟨#[108, 105, 110, 107]⟩)) (x1 := (Value.string s)) (x2 := (Value.bool false)) (x3 := (Value.slice none 0 0))
            have r0 := s4.cell (i := 0) rfl
            have r1 := s4.cell (i := 1) rfl
            have r2 := s4.cell (i := 2) rfl
            have r3 := s4.cell (i := 3) rfl
            have HFR := hidd (hF8.set4 (p := w.heap.size) (.inr (Nat.le_refl _)) ((Value.string ⟨#[108, 105, 110, 107]⟩)) ((Value.string s)) ((Value.bool false)) ((Value.slice none 0 0)))
            clear s4 hz8 hF8 hl8 h8
            go_wp2_with fail
            refine bodyPost_ret (v := .tuple #[.agg #[.string ⟨#[108, 105, 110, 107]⟩, .string s, .bool false, .slice none 0 0], .int .i64 0]) ?_ rfl ?_
            · rw [results_cell_tmp rfl]
              go_simp
            · rw [HX.out]
              exact ⟨⟨kLink, s, false, none, 0, [], b1, rfl, HP.out.1, HP.out.2.1, HP.out.2.2.1, hb1, HDR.out, HP.out.2.2.2⟩, HFR.out⟩
        have k108 := k
        clear k
        by_cases k : y = 102
        · clear k100 k108
          have e100 : ((y.toNat : Int) == 100) = false := by rw [k]; rfl
          have e108 : ((y.toNat : Int) == 108) = false := by rw [k]; rfl
          have e102 : ((y.toNat : Int) == 102) = true := by rw [k]; rfl
          have e120 : ((y.toNat : Int) == 120) = false := by rw [k]; rfl
          have e9 : ((y.toNat : Int) != 100) = true := by rw [bne, e100]; rfl
          have hr6 : RgAt (w5.alloc (.cells #[.string ⟨#[102, 105, 108, 101]⟩, .string ⟨#[]⟩, .bool false, .slice none 0 0] 24)) p S (a + 1) (c + 1) := Blk.alloc hr5 _
          have hz6 := hz5.alloc (.cells #[.string ⟨#[102, 105, 108, 101]⟩, .string ⟨#[]⟩, .bool false, .slice none 0 0] 24)
          have hF6 := hF5.alloc (.cells #[.string ⟨#[102, 105, 108, 101]⟩, .string ⟨#[]⟩, .bool false, .slice none 0 0] 24)
          have hl6 := Blk.new w5 [.string ⟨#[102, 105, 108, 101]⟩, .string ⟨#[]⟩, .bool false, .slice none 0 0] 24
          rw [hq] at hl6
          have HNX : Hid (nodeP (f + 1) c (S.data.toList.drop a) = leafP 102 (c + 1) (S.data.toList.drop (a + 1))) := hidd (by rw [HN.out, k, if_neg (by decide), if_pos (by decide)])
          have HC := hidd (bytes_rd p (a + 1) (c + 1) S _ hr6 hs ha1)
          clear hr5 hz5 hF5 k HN hr6
          go_wp2_with fail
          refine HC.out.mono ?_
          rintro e w7 ⟨⟨hno, rfl⟩ | ⟨s, r1, b1, hso, hb1, hdr, rfl, h7⟩, hf7⟩
          · have hz7 := hz6.fr hf7 (by omega)
            have hF7 := hF6.trans hf7
            have y0 := hz7.cell (i := 0) rfl
            have y1 := hz7.cell (i := 1) rfl
            have y2 := hz7.cell (i := 2) rfl
            have y3 := hz7.cell (i := 3) rfl
            have f0 := hz7.frozen 0
            have f1 := hz7.frozen 1
            have f2 := hz7.frozen 2
            have f3 := hz7.frozen 3
            have s4 := hz7.set4 (x0 := (Value.string ⟨#[]⟩)) (x1 := (Value.string ⟨#[]⟩)) (x2 := (Value.bool false)) (x3 := (Value.slice none 0 0))
            have r0 := s4.cell (i := 0) rfl
            have r1 := s4.cell (i := 1) rfl
            have r2 := s4.cell (i := 2) rfl
            have r3 := s4.cell (i := 3) rfl
            have HFR := hidd (hF7.set4 (p := w.heap.size) (.inr (Nat.le_refl _)) ((Value.string ⟨#[]⟩)) ((Value.string ⟨#[]⟩)) ((Value.bool false)) ((Value.slice none 0 0)))
            have HX := hidd (show nodeP (f + 1) c (S.data.toList.drop a) = .error 1 from by rw [HNX.out]; unfold leafP; rw [hno])
            clear s4 hz7 hF7 hno hf7 HNX hz6 hF6 hl6 HC
            go_wp2_with fail
            refine bodyPost_ret (v := .tuple #[.agg #[.string ⟨#[]⟩, .string ⟨#[]⟩, .bool false, .slice none 0 0], .int .i64 1]) ?_ rfl ?_
            · rw [results_cell_tmp rfl]
              go_simp
            · exact nr_err HX.out HFR.out
          · have hz7 := hz6.fr hf7 (by omega)
            have hl7 := hl6.fr hf7 (by omega)
            have hF7 := hF6.trans hf7
            have fl := hl7.frozen 1
            have hz8 := hz7.other (a := ⟨q, 1, none⟩) (by simp; omega) (.string s)
            have hl8 := hl7.set 1 (.string s)
            have hF8 := hF7.setCell (p := ⟨q, 1, none⟩) (.inr (by simp; omega)) (.string s)
            have h8 : RgAt (w7.setCell ⟨q, 1, none⟩ (.string s)) p S b1 (c + 1) := Blk.other h7 (a := ⟨q, 1, none⟩) (by simp; omega) (.string s)
            have HX : Hid (nodeP (f + 1) c (S.data.toList.drop a) = .ok (.mk kFile s false () [], c + 1, r1)) := hidd (by rw [HNX.out]; unfold leafP; rw [hso]; rfl)
            have l0 := hl7.cell (i := 1) rfl
            have HDR := hidd hdr
            clear hso hf7 HNX hz6 hF6 hl6 HC hz7 hF7 hl7 h7 hdr
            generalize hw8 : w7.setCell ⟨q, 1, none⟩ (.string s) = w8 at *
            have b0 := hl8.cell (i := 0) rfl
            have b1' := hl8.cell (i := 1) rfl
            have b2 := hl8.cell (i := 2) rfl
            have b3 := hl8.cell (i := 3) rfl
            have HP := hidd (nr_ok (w := w) (x := .mk kFile s false () []) (kd := kFile) (da := s) (ex := false) (xa := none) (xc := 0) (ks' := []) (w2 := w8) (bare_mk' _ _ _ _ _) (leaf_ok _ _ _ _) (leaf_in _ _ _ _) h8 hz8.lt hpw (.string ⟨#[102, 105, 108, 101]⟩) (.string s) (.bool false) (.slice none 0 0))
            have y0 := hz8.cell (i := 0) rfl
            have y1 := hz8.cell (i := 1) rfl
            have y2 := hz8.cell (i := 2) rfl
            have y3 := hz8.cell (i := 3) rfl
            have f0 := hz8.frozen 0
            have f1 := hz8.frozen 1
            have f2 := hz8.frozen 2
            have f3 := hz8.frozen 3
            have s4 := hz8.set4 (x0 := (Value.string ⟨#[102, 105, 108, 101]⟩)) (x1 := (Value.string s)) (x2 := (Value.bool false)) (x3 := (Value.slice none 0 0))
            have r0 := s4.cell (i := 0) rfl
            have r1 := s4.cell (i := 1) rfl
            have r2 := s4.cell (i := 2) rfl
            have r3 := s4.cell (i := 3) rfl
            have HFR := hidd (hF8.set4 (p := w.heap.size) (.inr (Nat.le_refl _)) ((Value.string ⟨#[102, 105, 108, 101]⟩)) ((Value.string s)) ((Value.bool false)) ((Value.slice none 0 0)))
            clear s4 hz8 hF8 hl8 h8
            go_wp2_with fail
            refine bodyPost_ret (v := .tuple #[.agg #[.string ⟨#[102, 105, 108, 101]⟩, .string s, .bool false, .slice none 0 0], .int .i64 0]) ?_ rfl ?_
            · rw [results_cell_tmp rfl]
              go_simp
            · rw [HX.out]
              exact ⟨⟨kFile, s, false, none, 0, [], b1, rfl, HP.out.1, HP.out.2.1, HP.out.2.2.1, hb1, HDR.out, HP.out.2.2.2⟩, HFR.out⟩
        have k102 := k
        clear k
        by_cases k : y = 120
        · clear k100 k108 k102
          have e100 : ((y.toNat : Int) == 100) = false := by rw [k]; rfl
          have e108 : ((y.toNat : Int) == 108) = false := by rw [k]; rfl
          have e102 : ((y.toNat : Int) == 102) = false := by rw [k]; rfl
          have e120 : ((y.toNat : Int) == 120) = true := by rw [k]; rfl
          have e9 : ((y.toNat : Int) != 100) = true := by rw [bne, e100]; rfl
          have hr6 : RgAt (w5.alloc (.cells #[.string ⟨#[102, 105, 108, 101]⟩, .string ⟨#[]⟩, .bool true, .slice none 0 0] 24)) p S (a + 1) (c + 1) := Blk.alloc hr5 _
          have hz6 := hz5.alloc (.cells #[.string ⟨#[102, 105, 108, 101]⟩, .string ⟨#[]⟩, .bool true, .slice none 0 0] 24)
          have hF6 := hF5.alloc (.cells #[.string ⟨#[102, 105, 108, 101]⟩, .string ⟨#[]⟩, .bool true, .slice none 0 0] 24)
          have hl6 := Blk.new w5 [.string ⟨#[102, 105, 108, 101]⟩, .string ⟨#[]⟩, .bool true, .slice none 0 0] 24
          rw [hq] at hl6
          have HNX : Hid (nodeP (f + 1) c (S.data.toList.drop a) = leafP 120 (c + 1) (S.data.toList.drop (a + 1))) := hidd (by rw [HN.out, k, if_neg (by decide), if_pos (by decide)])
          have HC := hidd (bytes_rd p (a + 1) (c + 1) S _ hr6 hs ha1)
          clear hr5 hz5 hF5 k HN hr6
          go_wp2_with fail
          refine HC.out.mono ?_
          rintro e w7 ⟨⟨hno, rfl⟩ | ⟨s, r1, b1, hso, hb1, hdr, rfl, h7⟩, hf7⟩
          · have hz7 := hz6.fr hf7 (by omega)
            have hF7 := hF6.trans hf7
            have y0 := hz7.cell (i := 0) rfl
            have y1 := hz7.cell (i := 1) rfl
            have y2 := hz7.cell (i := 2) rfl
            have y3 := hz7.cell (i := 3) rfl
            have f0 := hz7.frozen 0
            have f1 := hz7.frozen 1
            have f2 := hz7.frozen 2
            have f3 := hz7.frozen 3
            have s4 := hz7.set4 (x0 := (Value.string ⟨#[]⟩)) (x1 := (Value.string ⟨#[]⟩)) (x2 := (Value.bool false)) (x3 := (Value.slice none 0 0))
            have r0 := s4.cell (i := 0) rfl
            have r1 := s4.cell (i := 1) rfl
            have r2 := s4.cell (i := 2) rfl
            have r3 := s4.cell (i := 3) rfl
            have HFR := hidd (hF7.set4 (p := w.heap.size) (.inr (Nat.le_refl _)) ((Value.string ⟨#[]⟩)) ((Value.string ⟨#[]⟩)) ((Value.bool false)) ((Value.slice none 0 0)))
            have HX := hidd (show nodeP (f + 1) c (S.data.toList.drop a) = .error 1 from by rw [HNX.out]; unfold leafP; rw [hno])
            clear s4 hz7 hF7 hno hf7 HNX hz6 hF6 hl6 HC
            go_wp2_with fail
            refine bodyPost_ret (v := .tuple #[.agg #[.string ⟨#[]⟩, .string ⟨#[]⟩, .bool false, .slice none 0 0], .int .i64 1]) ?_ rfl ?_
            · rw [results_cell_tmp rfl]
              go_simp
            · exact nr_err HX.out HFR.out
          · have hz7 := hz6.fr hf7 (by omega)
            have hl7 := hl6.fr hf7 (by omega)
            have hF7 := hF6.trans hf7
            have fl := hl7.frozen 1
            have hz8 := hz7.other (a := ⟨q, 1, none⟩) (by simp; omega) (.string s)
            have hl8 := hl7.set 1 (.string s)
            have hF8 := hF7.setCell (p := ⟨q, 1, none⟩) (.inr (by simp; omega)) (.string s)
            have h8 : RgAt (w7.setCell ⟨q, 1, none⟩ (.string s)) p S b1 (c + 1) := Blk.other h7 (a := ⟨q, 1, none⟩) (by simp; omega) (.string s)
            have HX : Hid (nodeP (f + 1) c (S.data.toList.drop a) = .ok (.mk kFile s true () [], c + 1, r1)) := hidd (by rw [HNX.out]; unfold leafP; rw [hso]; rfl)
            have l0 := hl7.cell (i := 1) rfl
            have HDR := hidd hdr
            clear hso hf7 HNX hz6 hF6 hl6 HC hz7 hF7 hl7 h7 hdr
            generalize hw8 : w7.setCell ⟨q, 1, none⟩ (.string s) = w8 at *
            have b0 := hl8.cell (i := 0) rfl
            have b1' := hl8.cell (i := 1) rfl
            have b2 := hl8.cell (i := 2) rfl
            have b3 := hl8.cell (i := 3) rfl
            have HP := hidd (nr_ok (w := w) (x := .mk kFile s true () []) (kd := kFile) (da := s) (ex := true) (xa := none) (xc := 0) (ks' := []) (w2 := w8) (bare_mk' _ _ _ _ _) (leaf_ok _ _ _ _) (leaf_in _ _ _ _) h8 hz8.lt hpw (.string ⟨#[102, 105, 108, 101]⟩) (.string s) (.bool true) (.slice none 0 0))
            have y0 := hz8.cell (i := 0) rfl
            have y1 := hz8.cell (i := 1) rfl
            have y2 := hz8.cell (i := 2) rfl
            have y3 := hz8.cell (i := 3) rfl
            have f0 := hz8.frozen 0
            have f1 := hz8.frozen 1
            have f2 := hz8.frozen 2
            have f3 := hz8.frozen 3
            have s4 := hz8.set4 (x0 := (Value.string ⟨#[102, 105, 108, 101]⟩)) (x1 := (Value.string s)) (x2 := (Value.bool true)) (x3 := (Value.slice none 0 0))
            have r0 := s4.cell (i := 0) rfl
            have r1 := s4.cell (i := 1) rfl
            have r2 := s4.cell (i := 2) rfl
            have r3 := s4.cell (i := 3) rfl
            have HFR := hidd (hF8.set4 (p := w.heap.size) (.inr (Nat.le_refl _)) ((Value.string ⟨#[102, 105, 108, 101]⟩)) ((Value.string s)) ((Value.bool true)) ((Value.slice none 0 0)))
            clear s4 hz8 hF8 hl8 h8
            go_wp2_with fail
            refine bodyPost_ret (v := .tuple #[.agg #[.string ⟨#[102, 105, 108, 101]⟩, .string s, .bool true, .slice none 0 0], .int .i64 0]) ?_ rfl ?_
            · rw [results_cell_tmp rfl]
              go_simp
            · rw [HX.out]
              exact ⟨⟨kFile, s, true, none, 0, [], b1, rfl, HP.out.1, HP.out.2.1, HP.out.2.2.1, hb1, HDR.out, HP.out.2.2.2⟩, HFR.out⟩
        have k120 := k
        clear k
        have e100 : ((y.toNat : Int) == 100) = false := u8_ne k100
        have e108 : ((y.toNat : Int) == 108) = false := u8_ne k108
        have e102 : ((y.toNat : Int) == 102) = false := u8_ne k102
        have e120 : ((y.toNat : Int) == 120) = false := u8_ne k120
        have e9 : ((y.toNat : Int) != 100) = true := by rw [bne, e100]; rfl
        have HX0 : Hid (nodeP (f + 1) c (S.data.toList.drop a) = .error 1) := hidd (by rw [HN.out, if_neg k100, if_neg (by simp [k108, k102, k120])])
        have hr6 : RgAt (w5.alloc (.cells #[.string ⟨#[102, 105, 108, 101]⟩, .string ⟨#[]⟩, .bool false, .slice none 0 0] 24)) p S (a + 1) (c + 1) := Blk.alloc hr5 _
        have hz6 := hz5.alloc (.cells #[.string ⟨#[102, 105, 108, 101]⟩, .string ⟨#[]⟩, .bool false, .slice none 0 0] 24)
        have hF6 := hF5.alloc (.cells #[.string ⟨#[102, 105, 108, 101]⟩, .string ⟨#[]⟩, .bool false, .slice none 0 0] 24)
        have hl6 := Blk.new w5 [.string ⟨#[102, 105, 108, 101]⟩, .string ⟨#[]⟩, .bool false, .slice none 0 0] 24
        rw [hq] at hl6
        clear hr5 hz5 hF5 HN hr6 hl6 k100 k108 k102 k120
        go_upto_region 12 with fail
        generalize w5.alloc (.cells #[.string ⟨#[102, 105, 108, 101]⟩, .string ⟨#[]⟩, .bool false, .slice none 0 0] 24) = w6 at *
        have y0 := hz6.cell (i := 0) rfl
        have y1 := hz6.cell (i := 1) rfl
        have y2 := hz6.cell (i := 2) rfl
        have y3 := hz6.cell (i := 3) rfl
        have f0 := hz6.frozen 0
        have f1 := hz6.frozen 1
        have f2 := hz6.frozen 2
        have f3 := hz6.frozen 3
        have s4 := hz6.set4 (x0 := (Value.string ⟨#[]⟩)) (x1 := (Value.string ⟨#[]⟩)) (x2 := (Value.bool false)) (x3 := (Value.slice none 0 0))
        have r0 := s4.cell (i := 0) rfl
        have r1 := s4.cell (i := 1) rfl
        have r2 := s4.cell (i := 2) rfl
        have r3 := s4.cell (i := 3) rfl
        have HFR := hidd (hF6.set4 (p := w.heap.size) (.inr (Nat.le_refl _)) ((Value.string ⟨#[]⟩)) ((Value.string ⟨#[]⟩)) ((Value.bool false)) ((Value.slice none 0 0)))
        have HX := hidd (HX0.out)
        clear s4 hz6 hF6 
        go_wp2_with fail
        refine bodyPost_ret (v := .tuple #[.agg #[.string ⟨#[]⟩, .string ⟨#[]⟩, .bool false, .slice none 0 0], .int .i64 1]) ?_ rfl ?_
        · rw [results_cell_tmp rfl]
          go_simp
        · exact nr_err HX.out HFR.out
end Go.Proofs.YtoaedkinlnkkhaaGreatDoor
