/- The contracts of package disk: writing, a barrier, a crash. Condition: the receiver is a disk that New gave. -/
import Derived.Test.YtcpilhembdphoaaGreatDoorDk
import Derived.StillTailTactics
namespace Go.Proofs.YtcpilhembdphoaaGreatDoor
open Go.RowKit Go.Shelf

theorem Ow.self {F : Nat → Prop} {w : World} {e : TypeId} {size : Nat} {v : Value} {n : Nat} {xs : List Value} (h : Ow F w e size v n xs) (B : Nat) : Ow (fun g => F g ∧ (v.ownBlock = some g ∨ B ≤ g)) w e size v n xs := by
  refine ⟨h.1, ?_⟩
  rcases h.2 with hx | ⟨g, off, cap, cur, rfl, hb, rest⟩
  · exact .inl hx
  · exact .inr ⟨g, off, cap, cur, rfl, ⟨hb, .inl rfl⟩, rest⟩
theorem Ow.grown {F : Nat → Prop} {w w' : World} {e : TypeId} {size : Nat} {v : Value} {n : Nat} {xs : List Value} {row : Option Nat} (h : Ow F w e size v n xs) (hg : w.grownBy w' row) (hn : ∀ k, v.ownBlock = some k → row ≠ some k) : Ow F w' e size v n xs := by
  refine ⟨h.1, ?_⟩
  rcases h.2 with hx | ⟨g, off, cap, cur, rfl, hb, hgg, rest⟩
  · exact .inl hx
  · exact .inr ⟨g, off, cap, cur, rfl, hb, (hg.block g (Array.getElem?_eq_some_iff.1 hgg).1 (fun e => hn g rfl e.symm)).trans hgg, rest⟩

theorem infoW : (Tryz.prog.info? 82).map (fun i => (i.zero, i.size, i.bytes)) = some (some (.agg #[.int .i64 0, .string ⟨#[]⟩]), 2, 24) := by kernel_rfl

/-- A write that waits: what stands behind it. -/
def WrPost (p r : Nat) (v : Value) (ls : List ByteArray) (ws : List (Nat × ByteArray)) (w : World) (e : Ending) (w' : World) : Prop :=
  e = .returned .nilIface ∧ ∃ v', DkAt w' p r v' ls ws ∧ (∀ b, v'.ownBlock = some b → v.ownBlock = some b ∨ w.heap.size ≤ b) ∧ Fr (dkS p r v) w w'

set_option maxRecDepth 100000 in
set_option maxHeartbeats 1000000 in
theorem write_ok (p r : Nat) (v : Value) (ls : List ByteArray) (ws : List (Nat × ByteArray)) (k : Nat) (s : ByteArray) (w : World) (h : DkAt w p r v ls ws) (hk : k < ls.length) (hs : s.size = 16) (hws : ws.length ≤ 1000000) :
    Calls Tryz.prog 52 #[.pointer (some ⟨p, 0, none⟩), .int .i64 (k : Int), .string s] w (WrPost p r v ls (ws ++ [(k, s)]) w) := by
  obtain ⟨i0, hi, hz0, hz1, hz2⟩ := info_parts infoW
  have hd := h.hd
  have hw := h.hw
  obtain ⟨a, cap, rfl⟩ := h.wait.shape
  have hbk : badK ls.length (k : Int) = false := by unfold badK; simp; omega
  have q1 : ((s.size : Int) != 16) = false := by simp; omega
  have q2 : ((s.size : Int) == 16) = true := by simp; omega
  have hp := h.head.lt
  have hr := h.row.lt
  have hbl := h.wait.blk
  have how := h.wait.self w.heap.size
  have hne := h.ne
  have HS := hidd hs
  clear hs
  go_enter Tryz.func52, Tryz.ntmps52
  go_wp2_with fail
  refine (bad_any p r _ _ _ hd).mono ?_
  rintro e w' ⟨rfl, rfl⟩
  rw [hbk]
  clear hd
  have how1 := how.alloc (.cells #[.int .i64 (k : Int), .string s] 82)
  have hs1 := Src.new (P := Tryz.prog) (size := 2) (tx := 78) Tryz.underlying78 w w.heap.size rfl [.int .i64 (k : Int), .string s] 82 rfl (by intro u hu; simp at hu; rcases hu with rfl | rfl <;> rfl) 1
  have hw1 := (h.alloc (.cells #[.int .i64 (k : Int), .string s] 82)).hw
  have hd1 := (h.alloc (.cells #[.int .i64 (k : Int), .string s] 82)).head
  go_wp2_with (at_builtin; refine wpList_append_ow _ rfl _ _ 78 78 rfl _ ?cF 82 i0 _ 2 24 Tryz.underlying78 hi hz0 hz1 hz2 rfl (by decide) _ _ _ rfl how1 _ _ _ rfl hs1 ?c3 ?c4 ?_)
  case cF => intro g hg; simp at hg; exact ⟨⟨by omega, by omega⟩, .inr (by omega)⟩
  case c3 => unfold maxLen; omega
  case c4 => omega
  intro v' w1 hown' hgrow
  have hh1 : Blk w1 p [.slice (some ⟨r, 0, none⟩) ls.length ls.length, .slice a ws.length cap] 80 := hd1.grown hgrow (fun e => (hbl p e.symm).1.1 rfl)
  have hrow1 := (h.alloc (.cells #[.int .i64 (k : Int), .string s] 82)).row.grown hgrow (fun e => (hbl r e.symm).1.2 rfl)
  have hc1 := hh1.cell (i := 1) (v := .slice a ws.length cap) rfl
  have hf1 := hh1.frozen 1
  obtain ⟨a', cap', rfl⟩ := hown'.shape
  have hset := hh1.set 1 (.slice a' (ws.length + 1) cap')
  have hrow2 := hrow1.other (a := ⟨p, 1, none⟩) (fun e => hne e.symm) (.slice a' (ws.length + 1) cap')
  have hown2 := hown'.set (a := ⟨p, 1, none⟩) (fun e => e.1.1 rfl) (.slice a' (ws.length + 1) cap')
  have hfr : Fr (dkS p r (.slice a ws.length cap)) w w1 := ((Fr.refl _ w).alloc _).grown hgrow (fun k' hk' => .inl (.inr (.inr hk')))
  have hfr2 := hfr.setCell (p := ⟨p, 1, none⟩) (.inl (.inl rfl)) (.slice a' (ws.length + 1) cap')
  have hpos := h.pos
  have hbig := h.big
  have hinr := h.inr
  have hb2 := hown'.blk
  clear hw hw1 hd1 how how1 hs1 hown' hgrow h hh1 hrow1 hfr
  go_wp2_with fail
  go_ret
  refine ⟨rfl, _, ⟨hset, hrow2, ?_, hne, hpos, hbig, ?_⟩, fun b hb => (hb2 b hb).1.2, hfr2⟩
  · have := hown2.mono (F' := fun g => g ≠ p ∧ g ≠ r) (fun g hg => hg.1)
    have e : wcells (ws ++ [(k, s)]) = wcells ws ++ [.int .i64 (k : Int), .string s] := by rw [wcells_append]; rfl
    rw [e]
    simpa using this
  · intro x hx
    rcases List.mem_append.1 hx with hx | hx
    · exact hinr x hx
    · simp at hx; subst hx; exact hk
theorem write_bad (E : Nat → Addr) (p r : Nat) (v : Value) (ls : List ByteArray) (ws : List (Nat × ByteArray)) (k : Int) (s : ByteArray) (w : World) (h : DkAt w p r v ls ws) (hk : badK ls.length k = true ∨ s.size ≠ 16)
    (B : Nat) (G : List Nat) (hE : Env G B w E) (hg : 0 ∈ G) :
    Calls Tryz.prog 52 #[.pointer (some ⟨p, 0, none⟩), .int .i64 k, .string s] w fun e w' => e = .returned (erv E 0) ∧ w = w' := by
  have hd := h.hd
  have hc := hE.cell _ hg
  unfold erv at *
  by_cases hb : badK ls.length k = true
  · clear h hE hk
    go_enter Tryz.func52, Tryz.ntmps52
    go_wp2_with fail
    refine (bad_any p r _ _ _ hd).mono ?_
    rintro e w' ⟨rfl, rfl⟩
    rw [hb]
    go_wp2_with fail
    go_ret
    exact ⟨rfl, rfl⟩
  · have hb' : badK ls.length k = false := by simpa using hb
    have hs : s.size ≠ 16 := hk.resolve_left hb
    have q1 : ((s.size : Int) != 16) = true := by rw [bne_iff_ne]; omega
    have q2 : ((s.size : Int) == 16) = false := by simp; omega
    clear h hE hk hb hs
    go_enter Tryz.func52, Tryz.ntmps52
    go_wp2_with fail
    refine (bad_any p r _ _ _ hd).mono ?_
    rintro e w' ⟨rfl, rfl⟩
    rw [hb']
    go_wp2_with fail
    go_ret
    exact ⟨rfl, rfl⟩

/-- What a barrier, and a crash, leave. -/
def CrPost (keep : Nat → Bool) (p r : Nat) (ls : List ByteArray) (ws : List (Nat × ByteArray)) (w : World) (e : Ending) (w' : World) : Prop :=
  (∃ u, e = .returned u) ∧ DkAt w' p r (.slice none 0 0) (crTo keep ls ws ws.length) [] ∧ Fr (fun b => b = p ∨ b = r) w w'

set_option maxRecDepth 100000 in
set_option maxHeartbeats 2000000 in
theorem barrier_any (p r : Nat) (v : Value) (ls : List ByteArray) (ws : List (Nat × ByteArray)) (w : World) (h : DkAt w p r v ls ws) :
    Calls Tryz.prog 53 #[.pointer (some ⟨p, 0, none⟩)] w (CrPost (fun _ => true) p r ls ws w) := by
  have hw := h.hw
  obtain ⟨a, cap, rfl⟩ := h.wait.shape
  have hsl := h.wait.sl
  have hm := hsl.le
  have hp := h.head.lt
  have hr := h.row.lt
  have hne := h.ne
  have hbl := h.wait.blk
  go_enter Tryz.func53, Tryz.ntmps53
  go_wp2_with fail
  go_loopw [9] (fun i wr => ∃ k : Nat, k ≤ ws.length ∧ i = .int .i64 (k : Int) ∧ Blk wr r ((crTo (fun _ => true) ls ws k).map Value.string) 9 ∧ Fr (fun b => b = r) w wr) (fun i _ => ws.length - (intOf i).toNat)
  case atStart => exact ⟨0, Nat.zero_le _, rfl, h.row, Fr.refl _ _⟩
  case round =>
    obtain ⟨k, hk, rfl, hrow, hfr⟩ := hrel
    have hhd := h.head.fr hfr hne
    by_cases hlt : k < ws.length
    · obtain ⟨w1, w2⟩ := wcells_at ws k hlt
      have hslr := hsl.fr hfr (fun b hb e => (hbl b hb).1.2 e)
      obtain ⟨b, off, rfl, hcs⟩ : ∃ b off, a = some ⟨b, off, none⟩ ∧ ∀ j (hj : j < (wcells ws).length), wr.cell? ⟨b, off + j, none⟩ = some (wcells ws)[j] := by
        obtain ⟨a', cap', he, _, _, _, h3⟩ := hslr
        simp only [Value.slice.injEq] at he
        obtain ⟨rfl, _, rfl⟩ := he
        obtain ⟨b, off, rfl, _, hcs⟩ := h3.resolve_left (by omega)
        exact ⟨b, off, rfl, hcs⟩
      have hl2 := wcells_len ws
      have hc1 : wr.cell? ⟨b, off + k * 2, none⟩ = some (.int .i64 (ws[k].1 : Int)) := (hcs (k * 2) (by omega)).trans (by rw [← w1, List.getElem?_eq_getElem])
      have hc2 : wr.cell? ⟨b, off + k * 2 + 1, none⟩ = some (.string ws[k].2) := (hcs (k * 2 + 1) (by omega)).trans (by rw [← w2, List.getElem?_eq_getElem])
      have hin := h.inr _ (List.getElem_mem hlt)
      have HC := hidd (crTo_y (keep := fun _ => true) (ls := ls) hlt rfl)
      have hlc := crTo_len (fun _ => true) ls ws k
      have q1 : (0 : Int) ≤ (k : Int) := by omega
      have q2 : (k : Int) < (ws.length : Int) := by omega
      clear hcs w1 w2 hl2 hslr
      generalize crTo (fun _ => true) ls ws k = lk at *
      generalize ws[k] = x at *
      have hcx : wr.cell? ⟨r, x.1, none⟩ = some (.string (lk.getD x.1 ByteArray.empty)) := hrow.cell (by simp [List.getD_eq_getElem?_getD, List.getElem?_eq_getElem (show x.1 < lk.length by omega)])
      have hHL := hidd hlc
      clear hlc
      generalize lk.getD x.1 ByteArray.empty = lx at *
      have hp1 := (hhd.alloc (.cells #[.int .i64 (x.1 : Int), .string x.2] 82)).cell (i := 0) (v := .slice (some ⟨r, 0, none⟩) ls.length ls.length) rfl
      have hq := Blk.new wr [.int .i64 (x.1 : Int), .string x.2] 82
      have hq1 := hq.cell (i := 0) (v := .int .i64 (x.1 : Int)) rfl
      have hq2 := hq.cell (i := 1) (v := .string x.2) rfl
      have hr1 := (hrow.alloc (.cells #[.int .i64 (x.1 : Int), .string x.2] 82))
      have hr2 := hr1.frozen x.1
      have hcx1 : (wr.alloc (.cells #[.int .i64 (x.1 : Int), .string x.2] 82)).cell? ⟨r, x.1, none⟩ = some (.string lx) := by
        rw [((Below.refl wr.heap.size wr).alloc (Nat.le_refl _) _).cell hrow.lt]; exact hcx
      have hset := hr1.set x.1 (.string x.2)
      have hfr1 := (hfr.alloc (.cells #[.int .i64 (x.1 : Int), .string x.2] 82)).setCell (p := ⟨r, x.1, none⟩) (.inl rfl) (.string x.2)
      go_wp2_with fail
      generalize wr.alloc _ = W at *
      generalize wr.heap.size = q at *
      go_region
      go_wp2_with fail
      go_roundw
      case rel => exact ⟨k + 1, hlt, by go_num, by rw [HC.out, List.map_set]; exact hset.drew, hfr1.drew⟩
      case measure => simp [intOf]; omega
    · obtain rfl : k = ws.length := by omega
      have hhd0 := hhd.cell (i := 1) (v := .slice a ws.length cap) rfl
      have hfz := hhd.frozen 1
      clear hw
      go_wp2_with fail
      go_end0
      have hh2 := hhd.set 1 (.slice none 0 0)
      have hr2 := hrow.other (a := ⟨p, 1, none⟩) (fun e => hne e.symm) (.slice none 0 0)
      have hl := crTo_len (fun _ => true) ls ws ws.length
      refine ⟨⟨_, rfl⟩, ⟨by rw [hl]; exact hh2, hr2, Ow.nil _ _ _ _, hne, by rw [hl]; exact h.pos, by rw [hl]; exact h.big, by simp⟩, (hfr.mono (fun _ _ x => .inr x)).setCell (.inl (.inl rfl)) _⟩
/-- Is a number one of those that are kept? -/
def keptB (keep : List Int) (i : Nat) : Bool := decide ((i : Int) ∈ keep)
theorem keptB_eq (keep : List Int) (i : Nat) : decide ((i : Int) ∈ keep) = keptB keep i := rfl

end Go.Proofs.YtcpilhembdphoaaGreatDoor
