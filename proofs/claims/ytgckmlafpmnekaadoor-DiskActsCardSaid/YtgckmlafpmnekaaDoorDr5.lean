/- The contract of the reference's Rot: a bit is turned. Condition: the receiver is a model that NewDisk gave, its texts are of a block's size. -/
import Derived.Test.YtgckmlafpmnekaaDoorDr4
namespace Go.Proofs.YtgckmlafpmnekaaDoor
open Go.RowKit

/-- What Rot leaves of a model. -/
def RrPost (k bit : Nat) (q : Nat) (lv wv : Value) (ls : List ByteArray) (ws : List (Nat × ByteArray)) (w : World) (e : Ending) (w' : World) : Prop :=
  (∃ u, e = .returned u) ∧ DrAt w' q lv wv (ls.set k (turn (ls.getD k ByteArray.empty) bit)) (turnW k bit ws) ∧ Fr (drS q lv wv) w w'

set_option maxRecDepth 100000 in
set_option maxHeartbeats 4000000 in
theorem rrot_any (q : Nat) (lv wv : Value) (ls : List ByteArray) (ws : List (Nat × ByteArray)) (k bit : Nat) (w : World) (h : DrAt w q lv wv ls ws) (hz : Sz ls ws) (hk : k < ls.length) (hb : bit < 128) :
    Calls Tryd.prog 49 #[.pointer (some ⟨q, 0, none⟩), .int .i64 (k : Int), .int .i64 (bit : Int)] w (RrPost k bit q lv wv ls ws w) := by
  obtain ⟨la, lcap, rfl⟩ := h.l.shape
  obtain ⟨wa, wcap, rfl⟩ := h.wait.shape
  have hpos : 0 < ls.length := by omega
  obtain ⟨g, off, rfl⟩ := h.l.addr hpos
  have hgq := (h.l.blk g rfl).1
  have hgl := (h.l.blk g rfl).2
  have hq := h.head.lt
  have hm := h.wait.sl.le
  have hm2 := h.l.sl.le
  have hc0 : w.cell? ⟨q, 0, none⟩ = some (.slice (some ⟨g, off, none⟩) ls.length lcap) := h.head.cell rfl
  have hcx := h.l.get (j := k) (v := .string (ls.getD k ByteArray.empty)) (by simp [List.getD_eq_getElem?_getD, List.getElem?_eq_getElem hk])
  have hfx := h.l.frozen hpos (off + k)
  have hkz : (ls.getD k ByteArray.empty).size = 16 := by
    rw [List.getD_eq_getElem?_getD, List.getElem?_eq_getElem hk]
    simpa using hz.l k hk
  have q1 : (0 : Int) ≤ (k : Int) := by omega
  have q2 : (k : Int) < (ls.length : Int) := by omega
  have HZ := hidd hkz
  clear hkz
  generalize hlk : ls.getD k ByteArray.empty = lk at *
  have HLK := hidd hlk
  clear hlk
  have HD2 : Hid (∀ w', Below w.heap.size w.drew w' → w'.cell? ⟨q, 0, none⟩ = some (.slice (some ⟨g, off, none⟩) ls.length lcap) ∧ w'.cell? ⟨g, off + k, none⟩ = some (.string lk) ∧ w'.frozen? ⟨g, off + k, none⟩ = false) :=
    hidd (fun w' hb' => ⟨(hb'.cell (p := ⟨q, 0, none⟩) hq).trans hc0, (hb'.cell (p := ⟨g, off + k, none⟩) hgl).trans hcx, (hb'.frozen (p := ⟨g, off + k, none⟩) hgl).trans hfx⟩)
  have hgf : ∀ b, (Value.slice (some ⟨g, off, none⟩) ls.length lcap).ownBlock = some b ↔ b = g := fun b => by simp [Value.ownBlock, eq_comm]
  go_enter Tryd.func49, Tryd.ntmps49
  go_upto_region 0 with fail
  go_cut [] (fun wx => ∃ w', Below w.heap.size w w' ∧ wx = w'.setCell ⟨g, off + k, none⟩ (.string (turn lk bit)))
  case first =>
    go_region_with ((go_at_call 86; refine (rturned_any lk bit _ hb HZ.out).mono ?_; rintro e w' ⟨rfl, hbl⟩; obtain ⟨hd3, hc3, hf3⟩ := HD2.out w' hbl))
    all_goals (go_wp2_with fail; go_meet; exact ⟨_, (Below.refl _ _).drew.trans hbl, rfl⟩)
  case rest =>
    obtain ⟨w2, hbl, rfl⟩ := hcut
    have h2 := h.ob hbl (Nat.le_refl _)
    have hfr := (Fr.ob (S := drS q (.slice (some ⟨g, off, none⟩) ls.length lcap) (.slice wa ws.length wcap)) hbl).setCell (p := ⟨g, off + k, none⟩) (.inl (.inr (.inl rfl))) (.string (turn lk bit))
    have hh := h2.head.other (a := ⟨g, off + k, none⟩) (fun e => hgq e.symm) (.string (turn lk bit))
    have hl := h2.l.setAt hpos (j := k) (by omega) (.string (turn lk bit))
    have hw := h2.wait.fr (S := fun b => b = g) ((Fr.refl (fun b => b = g) w2).setCell (p := ⟨g, off + k, none⟩) (.inl rfl) (.string (turn lk bit))) (fun b hb e => h.dis b ((hgf b).2 e) hb)
    generalize w2.setCell ⟨g, off + k, none⟩ (.string (turn lk bit)) = W at *
    have hbl2 := hw.blk
    have hlb := hl.blk
    have hlen0 := h.inr
    have hdis := h.dis
    clear h h2 hc0 hcx hfx HD2 hbl
    go_wp2_with fail
    go_loopw [6] (fun s wr => ∃ i : Nat, i ≤ ws.length ∧ s = .int .i64 (i : Int) ∧ Ow (fun g => g ≠ q) wr 151 2 (.slice wa ws.length wcap) ws.length (wcells (turnTo k bit ws i)) ∧ Fr (fun b => (Value.slice wa ws.length wcap).ownBlock = some b) W wr) (fun s _ => ws.length - (intOf s).toNat)
    case atStart => exact ⟨0, Nat.zero_le _, rfl, by simpa [turnTo, turnW] using hw, Fr.refl _ _⟩
    case round =>
      obtain ⟨i, hi, rfl, hown, hfri⟩ := hrel
      have hhd := hh.fr hfri (fun e => (hbl2 q e).1 rfl)
      have hc1 := hhd.cell (i := 1) (v := .slice wa ws.length wcap) rfl
      by_cases hlt : i < ws.length
      · obtain ⟨w1, w2'⟩ := turnTo_cell (k := k) (bit := bit) hlt
        obtain ⟨b, boff, rfl⟩ := hown.addr (by omega)
        have e1 := hown.get w1
        have e2 : wr.cell? ⟨b, boff + i * 2 + 1, none⟩ = _ := hown.get w2'
        have hf2 := hown.frozen (by omega) (boff + i * 2 + 1)
        have hwz := hz.w i hlt
        have q3 : (0 : Int) ≤ (i : Int) := by omega
        have q4 : (i : Int) < (ws.length : Int) := by omega
        by_cases hx : ws[i].1 = k
        · have hxe : ((ws[i].1 : Int) == (k : Int)) = true := by simp [hx]
          have HT := hidd (turnTo_hit (bit := bit) hlt hx)
          have HW := hidd hwz
          have hbA := World.block_lt_of_cell? _ _ e2
          have hpA := hhd.lt
          clear w1 w2' hwz hx
          generalize ws[i] = x at *
          have HD3 : Hid (∀ w', Below wr.heap.size wr.drew w' → w'.cell? ⟨q, 1, none⟩ = some (.slice (some ⟨b, boff, none⟩) ws.length wcap) ∧ w'.cell? ⟨b, boff + i * 2 + 1, none⟩ = some (.string x.2) ∧ w'.frozen? ⟨b, boff + i * 2 + 1, none⟩ = false) :=
            hidd (fun w' hb' => ⟨(hb'.cell (p := ⟨q, 1, none⟩) hpA).trans hc1, (hb'.cell (p := ⟨b, boff + i * 2 + 1, none⟩) hbA).trans e2, (hb'.frozen (p := ⟨b, boff + i * 2 + 1, none⟩) hbA).trans hf2⟩)
          go_wp2_with fail
          go_region_with ((go_at_call 86; refine (rturned_any x.2 bit _ hb HW.out).mono ?_; rintro e w' ⟨rfl, hbl'⟩; obtain ⟨hd3, hc3, hf3⟩ := HD3.out w' hbl'))
          all_goals
            go_wp2_with fail
            go_roundw
            case rel => exact ⟨i + 1, hlt, by go_num, by rw [HT.out]; exact (hown.drew.ob hbl').setAt (by omega) (j := i * 2 + 1) (by omega) _, ((hfri.drew).trans (Fr.ob hbl')).setCell (p := ⟨b, boff + i * 2 + 1, none⟩) (.inl rfl) _⟩
            case measure => simp [intOf]; omega
        · have hxe : ((ws[i].1 : Int) == (k : Int)) = false := by simp; omega
          have HT := hidd (turnTo_miss (bit := bit) hlt hx)
          clear w1 w2' hwz hx
          generalize ws[i] = x at *
          go_wp2_with fail
          go_roundw
          case rel => exact ⟨i + 1, hlt, by go_num, by rw [HT.out]; exact hown, hfri⟩
          case measure => simp [intOf]; omega
      · obtain rfl : ws.length = i := by omega
        have hl2 := hl.fr hfri (fun b e1 e2 => hdis b e1 e2)
        have hfull : turnTo k bit ws ws.length = turnW k bit ws := by simp [turnTo]
        rw [hfull] at hown
        have hwl : (turnW k bit ws).length = ws.length := by simp [turnW]
        have hcs : (ls.set k (turn lk bit)).length = ls.length := by simp
        have HWL := hidd hwl
        have HCS := hidd hcs
        clear hfull hwl hcs
        go_wp2_with fail
        go_end0
        unfold RrPost
        rw [HLK.out]
        refine ⟨⟨_, rfl⟩, ⟨?_, ?_, ?_, hdis, ?_⟩, ?_⟩
        · exact hhd
        · rw [HCS.out, List.map_set]; exact hl2
        · rw [HWL.out]; exact hown
        · intro x hx
          rw [HCS.out]
          unfold turnW at hx
          obtain ⟨y, hy, rfl⟩ := List.mem_map.1 hx
          have := hlen0 y hy
          split <;> exact this
        · exact hfr.trans' hfri (fun _ _ x => x) (fun _ _ x => .inr (.inr x))
end Go.Proofs.YtgckmlafpmnekaaDoor
