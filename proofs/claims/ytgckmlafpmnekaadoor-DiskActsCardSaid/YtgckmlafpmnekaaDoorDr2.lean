/- The contracts of the reference's disk: what waits, what is read, what a crash leaves. Condition: the receiver is a model that NewDisk gave. -/
import Derived.Test.YtgckmlafpmnekaaDoorDr1
namespace Go.Proofs.YtgckmlafpmnekaaDoor
open Go.RowKit

/-- A model of a disk: its struct lies in block q. -/
structure DrAt (w : World) (q : Nat) (lv wv : Value) (ls : List ByteArray) (ws : List (Nat × ByteArray)) : Prop where
  head : Blk w q [lv, wv] 93
  l : Ow (fun g => g ≠ q) w 9 1 lv ls.length (ls.map Value.string)
  wait : Ow (fun g => g ≠ q) w 151 2 wv ws.length (wcells ws)
  dis : ∀ k, lv.ownBlock = some k → wv.ownBlock ≠ some k
  inr : ∀ x ∈ ws, x.1 < ls.length

/-- The blocks that an act on a model may turn. -/
def drS (q : Nat) (lv wv : Value) (b : Nat) : Prop := b = q ∨ lv.ownBlock = some b ∨ wv.ownBlock = some b

section
variable {w w' : World} {q : Nat} {lv wv : Value} {ls : List ByteArray} {ws : List (Nat × ByteArray)}
theorem DrAt.fr {S : Nat → Prop} (h : DrAt w q lv wv ls ws) (hf : Fr S w w') (hS : ∀ b, drS q lv wv b → ¬ S b) : DrAt w' q lv wv ls ws :=
  ⟨h.head.fr hf (hS q (.inl rfl)), h.l.fr hf (fun k hk => hS k (.inr (.inl hk))), h.wait.fr hf (fun k hk => hS k (.inr (.inr hk))), h.dis, h.inr⟩
theorem DrAt.lt (h : DrAt w q lv wv ls ws) : ∀ b, drS q lv wv b → b < w.heap.size := by
  rintro b (rfl | hb | hb)
  · exact h.head.lt
  · exact (h.l.blk b hb).2
  · exact (h.wait.blk b hb).2
theorem DrAt.ob {B : Nat} (h : DrAt w q lv wv ls ws) (hf : Below B w w') (hB : w.heap.size ≤ B) : DrAt w' q lv wv ls ws :=
  h.fr (S := fun b => B ≤ b) (Fr.of_below hf (fun _ _ x => x)) (fun b hb => by have := h.lt b hb; omega)
end

theorem infoRW : (Tryd.prog.info? 151).map (fun i => (i.zero, i.size, i.bytes)) = some (some (.agg #[.int .i64 0, .string ⟨#[]⟩]), 2, 24) := by kernel_rfl

/-- A write that waits in the model. -/
def PutPost (q : Nat) (lv wv : Value) (ls : List ByteArray) (ws : List (Nat × ByteArray)) (w : World) (e : Ending) (w' : World) : Prop :=
  (∃ u, e = .returned u) ∧ ∃ wv', DrAt w' q lv wv' ls ws ∧ (∀ b, wv'.ownBlock = some b → wv.ownBlock = some b ∨ w.heap.size ≤ b) ∧ Fr (drS q lv wv) w w'

set_option maxRecDepth 100000 in
set_option maxHeartbeats 1000000 in
theorem rput_any (q : Nat) (lv wv : Value) (ls : List ByteArray) (ws : List (Nat × ByteArray)) (k : Nat) (s : ByteArray) (w : World) (h : DrAt w q lv wv ls ws) (hk : k < ls.length) (hws : ws.length ≤ 1000000) :
    Calls Tryd.prog 47 #[.pointer (some ⟨q, 0, none⟩), .int .i64 (k : Int), .string s] w (PutPost q lv wv ls (ws ++ [(k, s)]) w) := by
  obtain ⟨i0, hi, hz0, hz1, hz2⟩ := info_parts infoRW
  have hw : w.cell? ⟨q, 1, none⟩ = some wv := h.head.cell rfl
  obtain ⟨a, cap, rfl⟩ := h.wait.shape
  have hp := h.head.lt
  have hbl := h.wait.blk
  have hll := h.l.blk
  have how := h.wait.self w.heap.size
  have hs1 := Src.new (P := Tryd.prog) (size := 2) (tx := 91) Tryd.underlying91 w w.heap.size rfl [.int .i64 (k : Int), .string s] 151 rfl (by intro u hu; simp at hu; rcases hu with rfl | rfl <;> rfl) 1
  have how1 := how.alloc (.cells #[.int .i64 (k : Int), .string s] 151)
  have hd1 := h.head.alloc (.cells #[.int .i64 (k : Int), .string s] 151)
  have hw1 := hd1.cell (i := 1) (v := .slice a ws.length cap) rfl
  have hl1 := h.l.alloc (.cells #[.int .i64 (k : Int), .string s] 151)
  have hdis := h.dis
  have hinr := h.inr
  go_enter Tryd.func47, Tryd.ntmps47
  go_wp2_with (at_builtin; refine wpList_append_ow _ rfl _ _ 91 91 rfl _ ?cF 151 i0 _ 2 24 Tryd.underlying91 hi hz0 hz1 hz2 rfl (by decide) _ _ _ rfl how1 _ _ _ rfl hs1 ?c3 ?c4 ?_)
  case cF => intro g hg; simp at hg; exact ⟨by omega, .inr (by omega)⟩
  case c3 => unfold maxLen; omega
  case c4 => omega
  intro v' w1 hown' hgrow
  have hh1 : Blk w1 q [lv, .slice a ws.length cap] 93 := hd1.grown hgrow (fun e => (hbl q e.symm).1 rfl)
  have hl2 := hl1.grown hgrow (fun k' hk' => hdis k' hk')
  have hc1 := hh1.cell (i := 1) (v := .slice a ws.length cap) rfl
  have hf1 := hh1.frozen 1
  obtain ⟨a', cap', rfl⟩ := hown'.shape
  have hset := hh1.set 1 (.slice a' (ws.length + 1) cap')
  have hl3 := hl2.set (a := ⟨q, 1, none⟩) (fun e => e rfl) (.slice a' (ws.length + 1) cap')
  have hown2 := hown'.set (a := ⟨q, 1, none⟩) (fun e => e.1 rfl) (.slice a' (ws.length + 1) cap')
  have hfr : Fr (drS q lv (.slice a ws.length cap)) w w1 := ((Fr.refl _ w).alloc _).grown hgrow (fun k' hk' => .inl (.inr (.inr hk')))
  have hfr2 := hfr.setCell (p := ⟨q, 1, none⟩) (.inl (.inl rfl)) (.slice a' (ws.length + 1) cap')
  have hb2 := hown'.blk
  clear hw hw1 hd1 how how1 hs1 hown' hgrow h hh1 hfr hl1 hl2
  go_wp2_with fail
  go_end0
  refine ⟨⟨_, rfl⟩, _, ⟨hset, hl3, ?_, ?_, ?_⟩, fun b hb => (hb2 b hb).1.2, hfr2⟩
  · have := hown2.mono (F' := fun g => g ≠ q) (fun g hg => hg.1)
    have e : wcells (ws ++ [(k, s)]) = wcells ws ++ [.int .i64 (k : Int), .string s] := by rw [wcells_append]; rfl
    rw [e]
    simpa using this
  · intro k' h1 h2
    rcases (hb2 k' h2).1.2 with e | e
    · exact hdis k' h1 e
    · have := (hll k' h1).2
      omega
  · intro x hx
    rcases List.mem_append.1 hx with hx | hx
    · exact hinr x hx
    · simp at hx; subst hx; exact hk

/-- A place in a slice that is owned. -/
theorem Ow.addr {F : Nat → Prop} {w : World} {e : TypeId} {size : Nat} {a : Option Addr} {cap n : Nat} {xs : List Value} (h : Ow F w e size (.slice a n cap) n xs) (hn : 0 < n) :
    ∃ g off, a = some ⟨g, off, none⟩ := by
  rcases h.2 with ⟨_, hn0⟩ | ⟨g, off, cap', cur, he, _⟩
  · omega
  · simp only [Value.slice.injEq] at he
    exact ⟨g, off, he.1⟩
theorem Ow.get {F : Nat → Prop} {w : World} {e : TypeId} {size : Nat} {g off cap n : Nat} {xs : List Value} (h : Ow F w e size (.slice (some ⟨g, off, none⟩) n cap) n xs) {j : Nat} {v : Value} (hj : xs[j]? = some v) : w.cell? ⟨g, off + j, none⟩ = some v := by
  obtain ⟨hl, rfl⟩ := List.getElem?_eq_some_iff.1 hj
  rcases h.cells with hx | ⟨g', off', he, _, _, hc⟩
  · subst hx; simp at hl
  · simp only [Option.some.injEq, Addr.mk.injEq] at he
    obtain ⟨rfl, rfl, _⟩ := he
    exact hc j hl

set_option maxRecDepth 100000 in
set_option maxHeartbeats 1000000 in
theorem rread_any (q : Nat) (lv wv : Value) (ls : List ByteArray) (ws : List (Nat × ByteArray)) (k : Nat) (w : World) (h : DrAt w q lv wv ls ws) (hk : k < ls.length) :
    Calls Tryd.prog 51 #[.pointer (some ⟨q, 0, none⟩), .int .i64 (k : Int)] w fun e w' => e = .returned (.string (rdW ws k (ls.getD k ByteArray.empty))) ∧ w = w' := by
  obtain ⟨la, lcap, rfl⟩ := h.l.shape
  obtain ⟨wa, wcap, rfl⟩ := h.wait.shape
  have hc0 : w.cell? ⟨q, 0, none⟩ = some (.slice la ls.length lcap) := h.head.cell rfl
  have hc1 : w.cell? ⟨q, 1, none⟩ = some (.slice wa ws.length wcap) := h.head.cell rfl
  obtain ⟨g, off, rfl⟩ := h.l.addr (by omega)
  have hcx := h.l.get (j := k) (v := .string (ls.getD k ByteArray.empty)) (by simp [List.getD_eq_getElem?_getD, List.getElem?_eq_getElem hk])
  have hm := h.wait.sl.le
  have hm2 := h.l.sl.le
  have q1 : (0 : Int) ≤ (k : Int) := by omega
  have q2 : (k : Int) < (ls.length : Int) := by omega
  obtain ⟨d, hd⟩ : ∃ d, ls.getD k ByteArray.empty = d := ⟨_, rfl⟩
  have HD : Hid (ls[k] = d) := hidd (by rw [← hd]; simp [List.getD_eq_getElem?_getD, List.getElem?_eq_getElem hk])
  rw [hd] at hcx
  clear hd
  go_enter Tryd.func51, Tryd.ntmps51
  go_wp2_with fail
  go_loop [5, 6] (fun s i => ∃ j : Nat, j ≤ ws.length ∧ i = .int .i64 (j : Int) ∧ s = .string (rdW (ws.take j) k d)) (fun _ i => ws.length - (intOf i).toNat)
  case atStart => exact ⟨0, Nat.zero_le _, rfl, by simp [rdW]⟩
  case round =>
    obtain ⟨j, hj, rfl, rfl⟩ := hrel
    by_cases hlt : j < ws.length
    · obtain ⟨b, boff, rfl⟩ := h.wait.addr (by omega)
      obtain ⟨w1, w2⟩ := wcells_at ws j hlt
      have e1 := h.wait.get w1
      have e2 : w.cell? ⟨b, boff + j * 2 + 1, none⟩ = _ := h.wait.get w2
      have q3 : (0 : Int) ≤ (j : Int) := by omega
      have q4 : (j : Int) < (ws.length : Int) := by omega
      by_cases hx : ws[j].1 = k
      · have hxe : ((ws[j].1 : Int) == (k : Int)) = true := by simp [hx]
        have HT := hidd (rdW_take_hit (d := d) hlt hx)
        clear w1 w2 hx
        generalize ws[j] = x at *
        go_wp2_with fail
        go_round
        case rel => exact ⟨j + 1, hlt, by go_num, by rw [HT.out]⟩
        case measure => simp [intOf]; omega
      · have hxe : ((ws[j].1 : Int) == (k : Int)) = false := by simp; omega
        have HT := hidd (rdW_take_miss (d := d) hlt hx)
        clear w1 w2 hx
        generalize ws[j] = x at *
        go_wp2_with fail
        go_round
        case rel => exact ⟨j + 1, hlt, by go_num, by rw [HT.out]⟩
        case measure => simp [intOf]; omega
    · obtain rfl : ws.length = j := by omega
      go_wp2_with fail
      go_ret
      refine ⟨?_, rfl⟩
      rw [HD.out]
      rfl
end Go.Proofs.YtgckmlafpmnekaaDoor
