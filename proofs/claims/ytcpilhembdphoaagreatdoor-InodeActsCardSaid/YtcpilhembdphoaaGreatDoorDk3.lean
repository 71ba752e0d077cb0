/- The contract of Rot of a disk: a bit is turned. Condition: the receiver is a disk that New gave, its texts are of a block's size. -/
import Derived.Test.YtcpilhembdphoaaGreatDoorDk2
import Derived.Test.YtcpilhembdphoaaGreatDoorTu
import Derived.Deep.RegionWith
import Derived.Deep.DeepCutAuto
import Derived.Deep.CutRange
namespace Go.Proofs.YtcpilhembdphoaaGreatDoor
open Go.RowKit Go.Shelf

/-- All texts are of a block's size. -/
structure Sz (ls : List ByteArray) (ws : List (Nat × ByteArray)) : Prop where
  l : ∀ i (h : i < ls.length), ls[i].size = 16
  w : ∀ i (h : i < ws.length), ws[i].2.size = 16

theorem Ow.at {F : Nat → Prop} {w : World} {e : TypeId} {size : Nat} {g off n cap : Nat} {xs : List Value} (h : Ow F w e size (.slice (some ⟨g, off, none⟩) n cap) n xs) (_hn : 0 < n) :
    F g ∧ ∃ cur, w.heap[g]? = some (.cells cur e (0, 0)) ∧ n ≤ cap ∧ cap ≤ maxLen ∧ off + cap * size ≤ cur.size ∧ (cur.toList.drop off).take (n * size) = xs := by
  rcases h.2 with ⟨he, hn0⟩ | ⟨g', off', cap', cur, he, hb, rest⟩
  · cases he
  · simp only [Value.slice.injEq, Option.some.injEq, Addr.mk.injEq] at he
    obtain ⟨⟨rfl, rfl, _⟩, _, rfl⟩ := he
    exact ⟨hb, cur, rest⟩
theorem Ow.frozen {F : Nat → Prop} {w : World} {e : TypeId} {size : Nat} {g off n cap : Nat} {xs : List Value} (h : Ow F w e size (.slice (some ⟨g, off, none⟩) n cap) n xs) (hn : 0 < n) (j : Nat) : w.frozen? ⟨g, j, none⟩ = false := by
  obtain ⟨_, cur, hg, _⟩ := h.at hn
  simp [World.frozen?, hg]
/-- A store into a slice that is owned. -/
theorem Ow.setAt {F : Nat → Prop} {w : World} {e : TypeId} {size : Nat} {g off n cap : Nat} {xs : List Value} (h : Ow F w e size (.slice (some ⟨g, off, none⟩) n cap) n xs) (hn : 0 < n) {j : Nat} (hj : j < n * size) (u : Value) :
    Ow F (w.setCell ⟨g, off + j, none⟩ u) e size (.slice (some ⟨g, off, none⟩) n cap) n (xs.set j u) := by
  obtain ⟨hF, cur, hg, h1, h2, h3, h4⟩ := h.at hn
  refine ⟨by rw [List.length_set]; exact h.1, .inr ⟨g, off, cap, cur.setIfInBounds (off + j) u, rfl, hF, by simp [World.setCell, Array.getElem?_modify, hg], h1, h2, by simpa using h3, ?_⟩⟩
  have hle : n * size ≤ cap * size := Nat.mul_le_mul_right _ h1
  rw [← h4]
  apply List.ext_getElem?
  intro i
  simp only [Array.toList_setIfInBounds, List.getElem?_take, List.getElem?_drop, List.getElem?_set, List.length_take, List.length_drop, Array.length_toList]
  by_cases hi : i < n * size
  · by_cases e : j = i
    · subst e
      have h5 : off + j < cur.size := by omega
      have h6 : j < n * size ∧ j < cur.size - off := by omega
      simp only [hi, if_true, h5, Nat.lt_min]
      rw [if_pos ⟨trivial, h6.2⟩]
    · have e' : ¬ off + j = off + i := by omega
      simp [hi, e]
  · have e' : ¬ j = i := by omega
    simp [hi, e']

/-- What waits behind i rounds of Rot. -/
def turnTo (k bit : Nat) (ws : List (Nat × ByteArray)) (i : Nat) : List (Nat × ByteArray) := turnW k bit (ws.take i) ++ ws.drop i
theorem turnTo_at {k bit : Nat} {ws : List (Nat × ByteArray)} {i : Nat} (h : i < ws.length) : turnTo k bit ws i = turnW k bit (ws.take i) ++ ws[i] :: ws.drop (i + 1) := by
  unfold turnTo; rw [List.drop_eq_getElem_cons h]
theorem turnTo_succ {k bit : Nat} {ws : List (Nat × ByteArray)} {i : Nat} (h : i < ws.length) : turnTo k bit ws (i + 1) = turnW k bit (ws.take i) ++ (if ws[i].1 = k then (ws[i].1, turn ws[i].2 bit) else ws[i]) :: ws.drop (i + 1) := by
  unfold turnTo turnW
  rw [List.take_succ_eq_append_getElem h, List.map_append]
  simp only [List.map_cons, List.map_nil, List.append_assoc, List.cons_append, List.nil_append]
theorem turnTo_len (k bit : Nat) (ws : List (Nat × ByteArray)) (i : Nat) : (turnTo k bit ws i).length = ws.length := by
  unfold turnTo turnW; simp; omega
theorem turnTo_miss {k bit : Nat} {ws : List (Nat × ByteArray)} {i : Nat} (h : i < ws.length) (hk : ws[i].1 ≠ k) : turnTo k bit ws (i + 1) = turnTo k bit ws i := by
  rw [turnTo_succ h, if_neg hk, turnTo_at h]
theorem turnTo_hit {k bit : Nat} {ws : List (Nat × ByteArray)} {i : Nat} (h : i < ws.length) (hk : ws[i].1 = k) : wcells (turnTo k bit ws (i + 1)) = (wcells (turnTo k bit ws i)).set (i * 2 + 1) (.string (turn ws[i].2 bit)) := by
  rw [turnTo_succ h, if_pos hk, turnTo_at h, wcells_append, wcells_append]
  have hl : (wcells (turnW k bit (ws.take i))).length = i * 2 := by rw [wcells_len]; unfold turnW; simp; omega
  rw [List.set_append_right _ _ (by omega), hl, show i * 2 + 1 - i * 2 = 1 by omega]
  rfl
theorem turnTo_cell {k bit : Nat} {ws : List (Nat × ByteArray)} {i : Nat} (h : i < ws.length) : (wcells (turnTo k bit ws i))[i * 2]? = some (.int .i64 (ws[i].1 : Int)) ∧ (wcells (turnTo k bit ws i))[i * 2 + 1]? = some (.string ws[i].2) := by
  have hi : i < (turnTo k bit ws i).length := by rw [turnTo_len]; exact h
  have e : (turnTo k bit ws i)[i] = ws[i] := by
    have hl : (turnW k bit (ws.take i)).length = i := by unfold turnW; simp; omega
    simp only [turnTo_at h]
    rw [List.getElem_append_right (by omega)]
    simp [hl]
  have := wcells_at (turnTo k bit ws i) i hi
  rwa [e] at this

def RotPost (k bit : Nat) (p r : Nat) (v : Value) (ls : List ByteArray) (ws : List (Nat × ByteArray)) (w : World) (e : Ending) (w' : World) : Prop :=
  e = .returned .nilIface ∧ DkAt w' p r v (ls.set k (turn (ls.getD k ByteArray.empty) bit)) (turnW k bit ws) ∧ Fr (dkS p r v) w w'

set_option maxRecDepth 100000 in
set_option maxHeartbeats 4000000 in
theorem rot_ok (p r : Nat) (v : Value) (ls : List ByteArray) (ws : List (Nat × ByteArray)) (k bit : Nat) (w : World) (h : DkAt w p r v ls ws) (hz : Sz ls ws) (hk : k < ls.length) (hb : bit < 128) :
    Calls Tryz.prog 10 #[.pointer (some ⟨p, 0, none⟩), .int .i64 (k : Int), .int .i64 (bit : Int)] w (RotPost k bit p r v ls ws w) := by
  have hd := h.hd
  have hc := h.cell hk
  have hf := h.row.frozen k
  have hkz : (ls.getD k ByteArray.empty).size = 16 := by
    rw [List.getD_eq_getElem?_getD, List.getElem?_eq_getElem hk]
    simpa using hz.l k hk
  have hbk : badK ls.length (k : Int) = false := by unfold badK; simp; omega
  have d1 : decide ((bit : Int) < 0) = false := by simp
  have d2 : decide ((128 : Int) ≤ (bit : Int)) = false := by simp; omega
  have d3 : decide (128 ≤ bit) = false := by simpa using hb
  have q1 : (0 : Int) ≤ (k : Int) := by omega
  have q2 : (k : Int) < (ls.length : Int) := by omega
  have HZ := hidd hkz
  clear hkz
  generalize hlk : ls.getD k ByteArray.empty = lk at *
  have HLK := hidd hlk
  clear hlk
  go_enter Tryz.func10, Tryz.ntmps10
  go_wp2_with fail
  refine (bad_any p r _ _ _ hd).mono ?_
  rintro e w' ⟨rfl, rfl⟩
  rw [hbk]
  go_wp2_with fail
  have hd2 : ∀ w', Below w.heap.size w.drew w' → w'.cell? ⟨p, 0, none⟩ = some (.slice (some ⟨r, 0, none⟩) ls.length ls.length) := fun w' hbl => (hbl.cell (p := ⟨p, 0, none⟩) h.head.lt).trans hd
  have hc2 : ∀ w', Below w.heap.size w.drew w' → w'.cell? ⟨r, k, none⟩ = some (.string lk) := fun w' hbl => (hbl.cell (p := ⟨r, k, none⟩) h.row.lt).trans hc
  have hf2 : ∀ w', Below w.heap.size w.drew w' → w'.frozen? ⟨r, k, none⟩ = false := fun w' hbl => (hbl.frozen (p := ⟨r, k, none⟩) h.row.lt).trans hf
  have HD2 := hidd hd2
  have HC2 := hidd hc2
  have HF2 := hidd hf2
  clear hd2 hc2 hf2
  go_upto_region 3 with fail
  go_cut [] (fun wx => ∃ w', Below w.heap.size w w' ∧ wx = w'.setCell ⟨r, k, none⟩ (.string (turn lk bit)))
  case first =>
    go_region_with ((go_at_call 30; refine (turned_any lk bit _ hb HZ.out).mono ?_; rintro e w' ⟨rfl, hbl⟩; have hd3 := HD2.out w' hbl; have hc3 := HC2.out w' hbl; have hf3 := HF2.out w' hbl))
    all_goals (go_wp2_with fail; go_meet; exact ⟨_, (Below.refl _ _).drew.trans hbl, rfl⟩)
  case rest =>
    obtain ⟨w2, hbl, rfl⟩ := hcut
    have h2 := h.ob hbl (Nat.le_refl _)
    have hfr := (Fr.ob (S := dkS p r v) hbl).setCell (p := ⟨r, k, none⟩) (.inl (.inr (.inl rfl))) (.string (turn lk bit))
    have hh := h2.head.other (a := ⟨r, k, none⟩) h.ne (.string (turn lk bit))
    have hr := h2.row.set k (.string (turn lk bit))
    have hw := h2.wait.set (a := ⟨r, k, none⟩) (fun e => e.2 rfl) (.string (turn lk bit))
    generalize w2.setCell ⟨r, k, none⟩ (.string (turn lk bit)) = W at *
    obtain ⟨a, cap, rfl⟩ := h.wait.shape
    have hm := h.wait.sl.le
    have hc1 := hh.cell (i := 1) (v := .slice a ws.length cap) rfl
    have hbl2 := hw.blk
    have hp := hh.lt
    have hrl := hr.lt
    have hlen0 := h.inr
    go_wp2_with fail
    go_loopw [41] (fun s wr => ∃ i : Nat, i ≤ ws.length ∧ s = .int .i64 (i : Int) ∧ Ow (fun g => g ≠ p ∧ g ≠ r) wr 82 2 (.slice a ws.length cap) ws.length (wcells (turnTo k bit ws i)) ∧ Fr (fun b => (Value.slice a ws.length cap).ownBlock = some b) W wr) (fun s _ => ws.length - (intOf s).toNat)
    case atStart => exact ⟨0, Nat.zero_le _, rfl, by simpa [turnTo, turnW] using hw, Fr.refl _ _⟩
    case round =>
      obtain ⟨i, hi, rfl, hown, hfri⟩ := hrel
      have hhd := hh.fr hfri (fun e => (hbl2 p e).1.1 rfl)
      have hc1 := hhd.cell (i := 1) (v := .slice a ws.length cap) rfl
      by_cases hlt : i < ws.length
      · obtain ⟨w1, w2⟩ := turnTo_cell (k := k) (bit := bit) hlt
        obtain ⟨b, off, rfl, hcs⟩ : ∃ b off, a = some ⟨b, off, none⟩ ∧ ∀ j (hj : j < (wcells (turnTo k bit ws i)).length), wr.cell? ⟨b, off + j, none⟩ = some (wcells (turnTo k bit ws i))[j] := by
          obtain ⟨a', cap', he, _, _, _, h3⟩ := hown.sl
          simp only [Value.slice.injEq] at he
          obtain ⟨rfl, _, rfl⟩ := he
          obtain ⟨b, off, rfl, _, hcs⟩ := h3.resolve_left (by omega)
          exact ⟨b, off, rfl, hcs⟩
        have hl2 := wcells_len (turnTo k bit ws i)
        rw [turnTo_len] at hl2
        have hcx1 : wr.cell? ⟨b, off + i * 2, none⟩ = some (.int .i64 (ws[i].1 : Int)) := (hcs (i * 2) (by omega)).trans (by rw [← w1, List.getElem?_eq_getElem])
        have hcx2 : wr.cell? ⟨b, off + i * 2 + 1, none⟩ = some (.string ws[i].2) := (hcs (i * 2 + 1) (by omega)).trans (by rw [← w2, List.getElem?_eq_getElem])
        have hwz := hz.w i hlt
        have q3 : (0 : Int) ≤ (i : Int) := by omega
        have q4 : (i : Int) < (ws.length : Int) := by omega
        have hownA := hown.alloc (.cells #[.int .i64 (ws[i].1 : Int), .string ws[i].2] 82)
        have hfrA := hfri.alloc (.cells #[.int .i64 (ws[i].1 : Int), .string ws[i].2] 82)
        by_cases hx : ws[i].1 = k
        · have hxe : ((ws[i].1 : Int) == (k : Int)) = true := by simp [hx]
          have HT := hidd (turnTo_hit (bit := bit) hlt hx)
          have HW := hidd hwz
          have hhdA := hhd.alloc (.cells #[.int .i64 (ws[i].1 : Int), .string ws[i].2] 82)
          have hq := Blk.new wr [.int .i64 (ws[i].1 : Int), .string ws[i].2] 82
          have hq2 := hq.cell (i := 1) (v := .string ws[i].2) rfl
          have hcA : (wr.alloc (.cells #[.int .i64 (ws[i].1 : Int), .string ws[i].2] 82)).cell? ⟨b, off + i * 2 + 1, none⟩ = some (.string ws[i].2) := by
            rw [((Below.refl wr.heap.size wr).alloc (Nat.le_refl _) _).cell (p := ⟨b, off + i * 2 + 1, none⟩) (World.block_lt_of_cell? wr _ hcx2)]; exact hcx2
          have hfA := hownA.frozen (by omega) (off + i * 2 + 1)
          have hdA := hhdA.cell (i := 1) (v := .slice (some ⟨b, off, none⟩) ws.length cap) rfl
          have hbA := World.block_lt_of_cell? _ _ hcA
          have hpA := hhdA.lt
          clear hcs w1 w2 hl2 hwz hx
          generalize ws[i] = x at *
          go_wp2_with fail
          generalize wr.alloc _ = W3 at *
          generalize wr.heap.size = q at *
          have HD2 : Hid (∀ w', Below W3.heap.size W3.drew w' → w'.cell? ⟨p, 1, none⟩ = some (.slice (some ⟨b, off, none⟩) ws.length cap) ∧ w'.cell? ⟨b, off + i * 2 + 1, none⟩ = some (.string x.2) ∧ w'.frozen? ⟨b, off + i * 2 + 1, none⟩ = false) :=
            hidd (fun w' hb' => ⟨(hb'.cell (p := ⟨p, 1, none⟩) hpA).trans hdA, (hb'.cell (p := ⟨b, off + i * 2 + 1, none⟩) hbA).trans hcA, (hb'.frozen (p := ⟨b, off + i * 2 + 1, none⟩) hbA).trans hfA⟩)
          clear hcA hfA
          go_region_with ((go_at_call 30; refine (turned_any x.2 bit _ hb HW.out).mono ?_; rintro e w' ⟨rfl, hbl'⟩; obtain ⟨hd3, hc3, hf3⟩ := HD2.out w' hbl'))
          all_goals
            go_wp2_with fail
            go_roundw
            case rel => exact ⟨i + 1, hlt, by go_num, by rw [HT.out]; exact (hownA.drew.ob hbl').setAt (by omega) (j := i * 2 + 1) (by omega) _, ((hfrA.drew).trans (Fr.ob hbl')).setCell (p := ⟨b, off + i * 2 + 1, none⟩) (.inl rfl) _⟩
            case measure => simp [intOf]; omega
        · have hxe : ((ws[i].1 : Int) == (k : Int)) = false := by simp; omega
          have HT := hidd (turnTo_miss (bit := bit) hlt hx)
          clear hcs w1 w2 hl2 hwz hx
          generalize ws[i] = x at *
          go_wp2_with fail
          go_roundw
          case rel => exact ⟨i + 1, hlt, by go_num, by rw [HT.out]; exact hownA, hfrA⟩
          case measure => simp [intOf]; omega
      · obtain rfl : ws.length = i := by omega
        have hrow2 := hr.fr hfri (fun e => (hbl2 r e).1.2 rfl)
        have hne := h.ne
        have hpos := h.pos
        have hbig := h.big
        have HLK2 := HLK
        clear hc1
        go_wp2_with fail
        go_ret
        have hfull : turnTo k bit ws ws.length = turnW k bit ws := by simp [turnTo]
        rw [hfull] at hown
        have hwl : (turnW k bit ws).length = ws.length := by simp [turnW]
        have hcs : (ls.set k (turn lk bit)).length = ls.length := by simp
        unfold RotPost
        rw [HLK2.out]
        refine ⟨rfl, ⟨?_, ?_, ?_, hne, by rw [hcs]; exact hpos, by rw [hcs]; exact hbig, ?_⟩, ?_⟩
        · rw [hcs]; exact hhd
        · rw [List.map_set]; exact hrow2
        · rw [hwl]; exact hown
        · intro x hx
          rw [hcs]
          unfold turnW at hx
          obtain ⟨y, hy, rfl⟩ := List.mem_map.1 hx
          have := hlen0 y hy
          split <;> exact this
        · exact hfr.trans' hfri (fun _ _ x => x) (fun _ _ x => .inr (.inr x))

theorem rot_bad (E : Nat → Addr) (p r : Nat) (v : Value) (ls : List ByteArray) (ws : List (Nat × ByteArray)) (k bit : Int) (w : World) (h : DkAt w p r v ls ws) (hk : badK ls.length k = true ∨ bit < 0 ∨ 128 ≤ bit)
    (B : Nat) (G : List Nat) (hE : Env G B w E) (hg : 0 ∈ G) :
    Calls Tryz.prog 10 #[.pointer (some ⟨p, 0, none⟩), .int .i64 k, .int .i64 bit] w fun e w' => e = .returned (erv E 0) ∧ w = w' := by
  have hd := h.hd
  have hc := hE.cell _ hg
  unfold erv at *
  cases hb : badK ls.length k
  · have h2 : bit < 0 ∨ 128 ≤ bit := hk.resolve_left (by rw [hb]; simp)
    by_cases h0 : bit < 0
    · have d1 : decide (bit < 0) = true := by simpa using h0
      clear h hE hk h2
      go_enter Tryz.func10, Tryz.ntmps10
      go_wp2_with fail
      refine (bad_any p r _ _ _ hd).mono ?_
      rintro e w' ⟨rfl, rfl⟩
      rw [hb]
      go_wp2_with fail
      go_ret
      exact ⟨rfl, rfl⟩
    · have d1 : decide (bit < 0) = false := by simpa using h0
      have d2 : decide (128 ≤ bit) = true := by simp; omega
      clear h hE hk h2
      go_enter Tryz.func10, Tryz.ntmps10
      go_wp2_with fail
      refine (bad_any p r _ _ _ hd).mono ?_
      rintro e w' ⟨rfl, rfl⟩
      rw [hb]
      go_wp2_with fail
      go_ret
      exact ⟨rfl, rfl⟩
  · clear h hE hk
    go_enter Tryz.func10, Tryz.ntmps10
    go_wp2_with fail
    refine (bad_any p r _ _ _ hd).mono ?_
    rintro e w' ⟨rfl, rfl⟩
    rw [hb]
    go_wp2_with fail
    go_ret
    exact ⟨rfl, rfl⟩
end Go.Proofs.YtcpilhembdphoaaGreatDoor
