/- The contracts of the reference's disk: a crash. Condition: the receiver is a model that NewDisk gave. -/
import Derived.Test.YtgckmlafpmnekaaDoorDr2
namespace Go.Proofs.YtgckmlafpmnekaaDoor
open Go.RowKit

theorem Sl.frp {w w' : World} {v : Value} {cs : List Value} {n size : Nat} {S : Nat → Prop} (h : Sl w v cs n size) (hf : Fr S w w') (hS : 0 < n → ∀ k, v.ownBlock = some k → ¬ S k) : Sl w' v cs n size := by
  by_cases h0 : 0 < n
  · exact h.fr hf (hS h0)
  · obtain ⟨a, cap, rfl, h1, h2, h2', _⟩ := h
    exact ⟨a, cap, rfl, h1, h2, h2', .inl (by omega)⟩

/-- What a crash leaves of a model. -/
def RcPost (kp : Nat → Bool) (q : Nat) (lv wv : Value) (ls : List ByteArray) (ws : List (Nat × ByteArray)) (w : World) (e : Ending) (w' : World) : Prop :=
  (∃ u, e = .returned u) ∧ DrAt w' q lv (.slice none 0 0) (crTo kp ls ws ws.length) [] ∧ Fr (drS q lv wv) w w'

set_option maxRecDepth 100000 in
set_option maxHeartbeats 4000000 in
theorem rcrash_any (q : Nat) (lv wv : Value) (ls : List ByteArray) (ws : List (Nat × ByteArray)) (kv : Value) (keep : List Int) (al : Bool) (w : World) (h : DrAt w q lv wv ls ws) (hpos : 0 < ls.length) (hv : Sl w kv (icells keep) keep.length 1) (hkv : 0 < keep.length → ∀ b, kv.ownBlock = some b → ¬ lv.ownBlock = some b) :
    Calls Tryd.prog 48 #[.pointer (some ⟨q, 0, none⟩), kv, .bool al] w (RcPost (fun i => al || keptB keep i) q lv wv ls ws w) := by
  obtain ⟨la, lcap, rfl⟩ := h.l.shape
  obtain ⟨wa, wcap, rfl⟩ := h.wait.shape
  obtain ⟨g, off, rfl⟩ := h.l.addr hpos
  have hgq := (h.l.blk g rfl).1
  have hm := h.wait.sl.le
  have hm2 := h.l.sl.le
  have hfrS : ∀ b, (Value.slice (some ⟨g, off, none⟩) ls.length lcap).ownBlock = some b ↔ b = g := fun b => by simp [Value.ownBlock, eq_comm]
  go_enter Tryd.func48, Tryd.ntmps48
  go_wp2_with fail
  go_loopw [6] (fun i wr => ∃ k : Nat, k ≤ ws.length ∧ i = .int .i64 (k : Int) ∧ Ow (fun b => b ≠ q) wr 9 1 (.slice (some ⟨g, off, none⟩) ls.length lcap) ls.length ((crTo (fun i => al || keptB keep i) ls ws k).map Value.string) ∧ Fr (fun b => b = g) w wr) (fun i _ => ws.length - (intOf i).toNat)
  case atStart => exact ⟨0, Nat.zero_le _, rfl, h.l, Fr.refl _ _⟩
  case round =>
    obtain ⟨k, hk, rfl, hown, hfr⟩ := hrel
    have hhd := h.head.fr hfr (fun e => hgq e.symm)
    have hc0 : wr.cell? ⟨q, 0, none⟩ = some (.slice (some ⟨g, off, none⟩) ls.length lcap) := hhd.cell rfl
    have hc1 : wr.cell? ⟨q, 1, none⟩ = some (.slice wa ws.length wcap) := hhd.cell rfl
    have hwt := h.wait.fr hfr (fun b hb e => h.dis b ((hfrS b).2 e) hb)
    by_cases hlt : k < ws.length
    · obtain ⟨b, boff, rfl⟩ := hwt.addr (by omega)
      obtain ⟨w1, w2⟩ := wcells_at ws k hlt
      have e1 := hwt.get w1
      have e2 : wr.cell? ⟨b, boff + k * 2 + 1, none⟩ = _ := hwt.get w2
      have hkr := hv.frp hfr (fun h0 b hb e => hkv h0 b hb ((hfrS b).2 e))
      have hin := h.inr _ (List.getElem_mem hlt)
      have q1 : (0 : Int) ≤ (k : Int) := by omega
      have q2 : (k : Int) < (ws.length : Int) := by omega
      have hHK := keptB_eq keep k
      have hlc := crTo_len (fun i => al || keptB keep i) ls ws k
      cases hkp : (al || keptB keep k)
      · have HC := hidd (crTo_n (keep := fun i => al || keptB keep i) (ls := ls) (ws := ws) hkp)
        have hal : al = false ∧ keptB keep k = false := by simpa using hkp
        obtain ⟨rfl, hkf⟩ := hal
        rw [hkf] at hHK
        clear w1 w2 hkp hkf hlc
        generalize crTo (fun i => false || keptB keep i) ls ws k = lk at *
        go_wp2_with (go_at_call 85; refine (has_any _ _ _ _ hkr).mono ?_; rintro e w' ⟨rfl, rfl⟩; rw [hHK])
        go_roundw
        case rel => exact ⟨k + 1, hlt, by go_num, by rw [HC.out]; exact hown, hfr⟩
        case measure => simp [intOf]; omega
      · have HC := hidd (crTo_y (keep := fun i => al || keptB keep i) (ls := ls) hlt hkp)
        have hfz := hown.frozen hpos (off + ws[k].1)
        have hcx := hown.get (j := ws[k].1) (v := .string ((crTo (fun i => al || keptB keep i) ls ws k).getD ws[k].1 ByteArray.empty)) (by simp [List.getD_eq_getElem?_getD, List.getElem?_eq_getElem (show ws[k].1 < (crTo (fun i => al || keptB keep i) ls ws k).length by omega)])
        have hset := hown.setAt hpos (j := ws[k].1) (by omega) (.string ws[k].2)
        have hfr1 := hfr.setCell (p := ⟨g, off + ws[k].1, none⟩) (.inl rfl) (.string ws[k].2)
        have hkp' : al = true ∨ (al = false ∧ keptB keep k = true) := by
          cases al
          · right; exact ⟨rfl, by simpa using hkp⟩
          · left; rfl
        have HLC := hidd hlc
        clear w1 w2 hkp hlc
        generalize crTo (fun i => al || keptB keep i) ls ws k = lk at *
        generalize ws[k] = x at *
        generalize lk.getD x.1 ByteArray.empty = lx at *
        rcases hkp' with rfl | ⟨rfl, hkt⟩
        · go_wp2_with fail
          go_region
          go_wp2_with fail
          go_roundw
          case rel => exact ⟨k + 1, hlt, by go_num, by rw [HC.out, List.map_set]; exact hset.drew, hfr1.drew⟩
          case measure => simp [intOf]; omega
        · rw [hkt] at hHK
          go_wp2_with (go_at_call 85; refine (has_any _ _ _ _ hkr).mono ?_; rintro e w' ⟨rfl, rfl⟩; rw [hHK])
          go_region
          go_wp2_with fail
          go_roundw
          case rel => exact ⟨k + 1, hlt, by go_num, by rw [HC.out, List.map_set]; exact hset.drew, hfr1.drew⟩
          case measure => simp [intOf]; omega
    · obtain rfl : k = ws.length := by omega
      have hfz := hhd.frozen 1
      have hset := hhd.set 1 (.slice none 0 0)
      have hl2 := hown.set (a := ⟨q, 1, none⟩) (fun e => e rfl) (.slice none 0 0)
      have hfr2 : Fr (drS q (.slice (some ⟨g, off, none⟩) ls.length lcap) (.slice wa ws.length wcap)) w (wr.setCell ⟨q, 1, none⟩ (.slice none 0 0)) := (hfr.mono (fun b _ e => .inr (.inl ((hfrS b).2 e)))).setCell (p := ⟨q, 1, none⟩) (.inl (.inl rfl)) _
      have hl := crTo_len (fun i => al || keptB keep i) ls ws ws.length
      have HL := hidd hl
      clear hl h hv hown hfr hhd hwt
      go_wp2_with fail
      go_end0
      refine ⟨⟨_, rfl⟩, ⟨hset, by rw [HL.out]; exact hl2, Ow.nil _ _ _ _, fun _ _ h => by simp [Value.ownBlock] at h, by simp⟩, hfr2⟩
end Go.Proofs.YtgckmlafpmnekaaDoor
