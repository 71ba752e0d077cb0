/- The contracts of the reference's disk: a crash. Condition: the receiver is a model that NewDisk gave. · The contract of the reference's NewDisk. Condition: at most 512 blocks. · The contract of the reference's Rot: a bit is turned. Condition: the receiver is a model that NewDisk gave, its texts are of a block's size. -/
import Derived.Test.YtcpilhembdphoaaGreatDoorDrA
import Derived.Deep.RegionLaw
namespace Go.Proofs.YtcpilhembdphoaaGreatDoor
open Go.RowKit

theorem Sl.frp {w w' : World} {v : Value} {cs : List Value} {n size : Nat} {S : Nat → Prop} (h : Sl w v cs n size) (hf : Fr S w w') (hS : 0 < n → ∀ k, v.ownBlock = some k → ¬ S k) : Sl w' v cs n size := by
  by_cases h0 : 0 < n
  · exact h.fr hf (hS h0)
  · obtain ⟨a, cap, rfl, h1, h2, h2', _⟩ := h
    exact ⟨a, cap, rfl, h1, h2, h2', .inl (by omega)⟩

/-- What a crash leaves of a model. -/
def RcPost (kp : Nat → Bool) (q : Nat) (lv wv : Value) (ls : List ByteArray) (ws : List (Nat × ByteArray)) (w : World) (e : Ending) (w' : World) : Prop :=
  (∃ u, e = .returned u) ∧ DrAt w' q lv (.slice none 0 0) (crTo kp ls ws ws.length) [] ∧ Fr (drS q lv wv) w w'

set_option maxRecDepth 100000 in
set_option maxHeartbeats 4000000 in
theorem rcrash_any (q : Nat) (lv wv : Value) (ls : List ByteArray) (ws : List (Nat × ByteArray)) (kv : Value) (keep : List Int) (al : Bool) (w : World) (h : DrAt w q lv wv ls ws) (hpos : 0 < ls.length) (hv : Sl w kv (icells keep) keep.length 1) (hkv : 0 < keep.length → ∀ b, kv.ownBlock = some b → ¬ lv.ownBlock = some b) :
    Calls Tryz.prog 84 #[.pointer (some ⟨q, 0, none⟩), kv, .bool al] w (RcPost (fun i => al || keptB keep i) q lv wv ls ws w) := by
  obtain ⟨la, lcap, rfl⟩ := h.l.shape
  obtain ⟨wa, wcap, rfl⟩ := h.wait.shape
  obtain ⟨g, off, rfl⟩ := h.l.addr hpos
  have hgq := (h.l.blk g rfl).1
  have hm := h.wait.sl.le
  have hm2 := h.l.sl.le
  have hfrS : ∀ b, (Value.slice (some ⟨g, off, none⟩) ls.length lcap).ownBlock = some b ↔ b = g := fun b => by simp [Value.ownBlock, eq_comm]
  go_enter Tryz.func84, Tryz.ntmps84
  go_wp2_with fail
  go_loopw [6] (fun i wr => ∃ k : Nat, k ≤ ws.length ∧ i = .int .i64 (k : Int) ∧ Ow (fun b => b ≠ q) wr 9 1 (.slice (some ⟨g, off, none⟩) ls.length lcap) ls.length ((crTo (fun i => al || keptB keep i) ls ws k).map Value.string) ∧ Fr (fun b => b = g) w wr) (fun i _ => ws.length - (intOf i).toNat)
  case atStart => exact ⟨0, Nat.zero_le _, rfl, h.l, Fr.refl _ _⟩
  case round =>
    obtain ⟨k, hk, rfl, hown, hfr⟩ := hrel
    have hhd := h.head.fr hfr (fun e => hgq e.symm)
    have hc0 : wr.cell? ⟨q, 0, none⟩ = some (.slice (some ⟨g, off, none⟩) ls.length lcap) := hhd.cell rfl
    have hc1 : wr.cell? ⟨q, 1, none⟩ = some (.slice wa ws.length wcap) := hhd.cell rfl
    have hwt := h.wait.fr hfr (fun b hb e => h.dis b ((hfrS b).2 e) hb)
    by_cases hlt : k < ws.length
    · obtain ⟨b, boff, rfl⟩ := hwt.addr (by omega)
      obtain ⟨w1, w2⟩ := wcells_at ws k hlt
      have e1 := hwt.get w1
      have e2 : wr.cell? ⟨b, boff + k * 2 + 1, none⟩ = _ := hwt.get w2
      have hkr := hv.frp hfr (fun h0 b hb e => hkv h0 b hb ((hfrS b).2 e))
      have hin := h.inr _ (List.getElem_mem hlt)
      have q1 : (0 : Int) ≤ (k : Int) := by omega
      have q2 : (k : Int) < (ws.length : Int) := by omega
      have hHK := keptB_eq keep k
      have hlc := crTo_len (fun i => al || keptB keep i) ls ws k
      cases hkp : (al || keptB keep k)
      · have HC := hidd (crTo_n (keep := fun i => al || keptB keep i) (ls := ls) (ws := ws) hkp)
        have hal : al = false ∧ keptB keep k = false := by simpa using hkp
        obtain ⟨rfl, hkf⟩ := hal
        rw [hkf] at hHK
        clear w1 w2 hkp hkf hlc
        generalize crTo (fun i => false || keptB keep i) ls ws k = lk at *
        go_wp2_with (go_at_call 89; refine (has_any _ _ _ _ hkr).mono ?_; rintro e w' ⟨rfl, rfl⟩; rw [hHK])
        go_roundw
        case rel => exact ⟨k + 1, hlt, by go_num, by rw [HC.out]; exact hown, hfr⟩
        case measure => simp [intOf]; omega
      · have HC := hidd (crTo_y (keep := fun i => al || keptB keep i) (ls := ls) hlt hkp)
        have hfz := hown.frozen hpos (off + ws[k].1)
        have hcx := hown.get (j := ws[k].1) (v := .string ((crTo (fun i => al || keptB keep i) ls ws k).getD ws[k].1 ByteArray.empty)) (by simp [List.getD_eq_getElem?_getD, List.getElem?_eq_getElem (show ws[k].1 < (crTo (fun i => al || keptB keep i) ls ws k).length by omega)])
        have hset := hown.setAt hpos (j := ws[k].1) (by omega) (.string ws[k].2)
        have hfr1 := hfr.setCell (p := ⟨g, off + ws[k].1, none⟩) (.inl rfl) (.string ws[k].2)
        have hkp' : al = true ∨ (al = false ∧ keptB keep k = true) := by
          cases al
          · right; exact ⟨rfl, by simpa using hkp⟩
          · left; rfl
        have HLC := hidd hlc
        clear w1 w2 hkp hlc
        generalize crTo (fun i => al || keptB keep i) ls ws k = lk at *
        generalize ws[k] = x at *
        generalize lk.getD x.1 ByteArray.empty = lx at *
        rcases hkp' with rfl | ⟨rfl, hkt⟩
        · go_wp2_with fail
          go_region
          go_wp2_with fail
          go_roundw
          case rel => exact ⟨k + 1, hlt, by go_num, by rw [HC.out, List.map_set]; exact hset.drew, hfr1.drew⟩
          case measure => simp [intOf]; omega
        · rw [hkt] at hHK
          go_wp2_with (go_at_call 89; refine (has_any _ _ _ _ hkr).mono ?_; rintro e w' ⟨rfl, rfl⟩; rw [hHK])
          go_region
          go_wp2_with fail
          go_roundw
          case rel => exact ⟨k + 1, hlt, by go_num, by rw [HC.out, List.map_set]; exact hset.drew, hfr1.drew⟩
          case measure => simp [intOf]; omega
    · obtain rfl : k = ws.length := by omega
      have hfz := hhd.frozen 1
      have hset := hhd.set 1 (.slice none 0 0)
      have hl2 := hown.set (a := ⟨q, 1, none⟩) (fun e => e rfl) (.slice none 0 0)
      have hfr2 : Fr (drS q (.slice (some ⟨g, off, none⟩) ls.length lcap) (.slice wa ws.length wcap)) w (wr.setCell ⟨q, 1, none⟩ (.slice none 0 0)) := (hfr.mono (fun b _ e => .inr (.inl ((hfrS b).2 e)))).setCell (p := ⟨q, 1, none⟩) (.inl (.inl rfl)) _
      have hl := crTo_len (fun i => al || keptB keep i) ls ws ws.length
      have HL := hidd hl
      clear hl h hv hown hfr hhd hwt
      go_wp2_with fail
      go_end0
      refine ⟨⟨_, rfl⟩, ⟨hset, by rw [HL.out]; exact hl2, Ow.nil _ _ _ _, fun _ _ h => by simp [Value.ownBlock] at h, by simp⟩, hfr2⟩
end Go.Proofs.YtcpilhembdphoaaGreatDoor

namespace Go.Proofs.YtcpilhembdphoaaGreatDoor
open Go.RowKit

/-- append onto a slice that is owned, as one step of a region that draws. -/
theorem step_append_owd {P : Program} {ops : Array Oper} {o : Oper} {a : Act} {w : World} {K : Act → World → Prop} {Q : Exit → Act → World → Prop} {E : Prop} (hgd : o.guard = none) (s x : Operand) (t tx : TypeId)
    (ho : o.op = .call { callee := .builtin .append, args := #[s, x], argTypes := #[t, tx] })
    (F : Nat → Prop) (hF : ∀ g, w.heap.size ≤ g → F g) (e : TypeId) (i : TypeInfo) (z : Value) (size bytes : Nat) (ht : P.underlying t = some (.slice e)) (hi : P.info? e = some i) (hz : i.zero = some z)
    (hsize : i.size = size) (hby : i.bytes = bytes) (hzs : z.cells.size = size) (hsz : 0 < size)
    (v : Value) (n : Nat) (xs : List Value) (hv : a.eval s = v) (hown : Ow F w e size v n xs) (y : Value) (m : Nat) (news : List Value) (hy : a.eval x = y) (hs : Src P size tx y m news w)
    (h63 : n + m ≤ maxLen) (hbytes : (n + m) * bytes ≤ 140737488355328)
    (h : ∀ v' w', Ow F w' e size v' (n + m) (xs ++ news) → w.grownBy w' v.ownBlock → K (a.put o.dst v') w') :
    if Region.wanted o (yielded ops a.tmps) = true then Oper.wp P o a w K Q else E := by
  have hw : Region.wanted o (yielded ops a.tmps) = true := by simp [Region.wanted, hgd]
  rw [if_pos hw]
  obtain ⟨v', w', hr, h2, h3⟩ := run_append_ow (P := P) w F hF t tx o.type e i z size bytes ht hi hz hsize hby hzs hsz v n xs hown y m news hs h63 hbytes
  unfold Oper.wp execOp
  simp only [ho, resolve, invoke, builtin, Sem.run_bind, Sem.run_pure, Result.andThen_ok, List.map_toArray, List.map_cons, List.map_nil, hv, hy, hr]
  exact h v' w' h2 h3

/-- What NewDisk gives. -/
def RnPost (n : Nat) (w : World) (e : Ending) (w' : World) : Prop :=
  ∃ q lv, e = .returned (.pointer (some ⟨q, 0, none⟩)) ∧ DrAt w' q lv (.slice none 0 0) (List.replicate n (zb 16)) [] ∧ w.heap.size ≤ q ∧ (∀ b, lv.ownBlock = some b → w.heap.size ≤ b) ∧ Below w.heap.size w w'

set_option maxRecDepth 100000 in
set_option maxHeartbeats 4000000 in
theorem rnewd_any (n : Nat) (w : World) (h2 : n ≤ 512) : Calls Tryz.prog 22 #[.int .i64 (n : Int)] w (RnPost n w) := by
  obtain ⟨i0, hi, hz0, hz1, hz2⟩ := info_parts infoS
  have hhd := Blk.new w [.slice none 0 0, .slice none 0 0] 99
  have hB0 : Below w.heap.size w (w.alloc (.cells [.slice none 0 0, .slice none 0 0].toArray 99)) := (Below.refl _ w).alloc (Nat.le_refl _) _
  go_enter Tryz.func22, Tryz.ntmps22
  go_wp2_with fail
  obtain ⟨q, hq⟩ : ∃ q, q = w.heap.size := ⟨_, rfl⟩
  rw [← hq] at hhd hB0 ⊢
  have HQ := hidd hq
  clear hq
  go_loopw [4] (fun i wr => ∃ (k : Nat) (lv : Value), k ≤ n ∧ i = .int .i64 (k : Int) ∧ Blk wr q [lv, .slice none 0 0] 99 ∧ Ow (fun g => q < g) wr 9 1 lv k ((List.replicate k (zb 16)).map Value.string) ∧ Below q w wr) (fun i _ => n - (intOf i).toNat)
  case atStart => exact ⟨0, _, Nat.zero_le _, rfl, hhd, Ow.nil _ _ _ _, hB0⟩
  case round =>
    obtain ⟨k, lv, hk, rfl, hb, hown, hbl⟩ := hrel
    by_cases hlt : k < n
    · obtain ⟨la, lcap, rfl⟩ := hown.shape
      have hc0 := hb.cell (i := 0) (v := .slice la k lcap) rfl
      have hc1 : wr.drew.cell? ⟨q, 0, none⟩ = some (.slice la k lcap) := hc0
      have q1 : (k : Int) < (n : Int) := by omega
      have hbq := hb.lt
      have hs1 := Src.new (P := Tryz.prog) (size := 1) (tx := 77) Tryz.underlying77 wr.drew wr.heap.size rfl [.string (zb 16)] 9 rfl (by intro u hu; simp at hu; subst hu; rfl) 1
      have hrow := hown.blk
      have HB4 : Hid (∀ w4, (wr.drew.alloc (.cells [Value.string (zb 16)].toArray 9)).grownBy w4 (Value.slice la k lcap).ownBlock → Blk w4 q [.slice la k lcap, .slice none 0 0] 99) :=
        hidd (fun w4 hg => (hb.drew.alloc _).grown hg (fun e => by have := (hrow q e.symm).1; omega))
      have HN := hidd (List.replicate_succ' (n := k) (a := zb 16))
      go_wp2_with fail
      go_region_law (first
        | (refine step_append_owd rfl (.tmp 16) (.tmp 18) 77 77 rfl (fun g => q < g) (fun g hg => by simp at hg; omega) 9 i0 _ 1 16 Tryz.underlying77 hi hz0 hz1 hz2 rfl (by decide) _ _ _ (by simp [Act.eval]) (hown.drew.alloc _) _ _ _ (by simp [Act.eval]) hs1 (by unfold maxLen; omega) (by omega) ?_; intro v' w4 hown' hgrow; obtain ⟨a', cap', hv'⟩ := hown'.shape; subst hv'; have hb4 := HB4.out _ hgrow; have hc4 := hb4.cell (i := 0) (v := .slice la k lcap) rfl; have hf4 := hb4.frozen 0)
        | (go_simp; go_at_call 48; refine (rzerosd_any _).mono ?_; rintro e w' ⟨rfl, rfl⟩))
      all_goals
        have hset := hb4.set 0 (.slice a' (k + 1) cap')
        have hown5 := hown'.set (a := ⟨q, 0, none⟩) (Nat.lt_irrefl q) (.slice a' (k + 1) cap')
        have hbl5 : Below q w (w4.setCell ⟨q, 0, none⟩ (.slice a' (k + 1) cap')) := (((hbl.drew).alloc (by simp; omega) _).grown hgrow (by simp; omega) (fun k' hk' => by have := (hrow k' hk').1; omega)).setCell (p := ⟨q, 0, none⟩) (Nat.le_refl _) _
        go_wp2_with fail
        go_roundw
        case rel => exact ⟨k + 1, _, hlt, by go_num, hset, by rw [HN.out, List.map_append]; exact hown5, hbl5⟩
        case measure => simp [intOf]; omega
    · obtain rfl : k = n := by omega
      have hown2 := hown.blk
      go_wp2_with fail
      go_ret
      refine ⟨q, lv, rfl, ⟨hb, by rw [List.length_replicate]; exact hown.mono (fun g hg => by omega), Ow.nil _ _ _ _, fun _ _ h => by simp [Value.ownBlock] at h, by simp⟩, by rw [HQ.out]; exact Nat.le_refl _, fun b hb => ?_, ?_⟩
      · have := (hown2 b hb).1
        rw [← HQ.out]; omega
      · rw [← HQ.out]; exact hbl
end Go.Proofs.YtcpilhembdphoaaGreatDoor

namespace Go.Proofs.YtcpilhembdphoaaGreatDoor
open Go.RowKit

/-- What Rot leaves of a model. -/
def RrPost (k bit : Nat) (q : Nat) (lv wv : Value) (ls : List ByteArray) (ws : List (Nat × ByteArray)) (w : World) (e : Ending) (w' : World) : Prop :=
  (∃ u, e = .returned u) ∧ DrAt w' q lv wv (ls.set k (turn (ls.getD k ByteArray.empty) bit)) (turnW k bit ws) ∧ Fr (drS q lv wv) w w'

set_option maxRecDepth 100000 in
set_option maxHeartbeats 4000000 in
theorem rrot_any (q : Nat) (lv wv : Value) (ls : List ByteArray) (ws : List (Nat × ByteArray)) (k bit : Nat) (w : World) (h : DrAt w q lv wv ls ws) (hz : Sz ls ws) (hk : k < ls.length) (hb : bit < 128) :
    Calls Tryz.prog 42 #[.pointer (some ⟨q, 0, none⟩), .int .i64 (k : Int), .int .i64 (bit : Int)] w (RrPost k bit q lv wv ls ws w) := by
  obtain ⟨la, lcap, rfl⟩ := h.l.shape
  obtain ⟨wa, wcap, rfl⟩ := h.wait.shape
  have hpos : 0 < ls.length := by omega
  obtain ⟨g, off, rfl⟩ := h.l.addr hpos
  have hgq := (h.l.blk g rfl).1
  have hgl := (h.l.blk g rfl).2
  have hq := h.head.lt
  have hm := h.wait.sl.le
  have hm2 := h.l.sl.le
  have hc0 : w.cell? ⟨q, 0, none⟩ = some (.slice (some ⟨g, off, none⟩) ls.length lcap) := h.head.cell rfl
  have hcx := h.l.get (j := k) (v := .string (ls.getD k ByteArray.empty)) (by simp [List.getD_eq_getElem?_getD, List.getElem?_eq_getElem hk])
  have hfx := h.l.frozen hpos (off + k)
  have hkz : (ls.getD k ByteArray.empty).size = 16 := by
    rw [List.getD_eq_getElem?_getD, List.getElem?_eq_getElem hk]
    simpa using hz.l k hk
  have q1 : (0 : Int) ≤ (k : Int) := by omega
  have q2 : (k : Int) < (ls.length : Int) := by omega
  have HZ := hidd hkz
  clear hkz
  generalize hlk : ls.getD k ByteArray.empty = lk at *
  have HLK := hidd hlk
  clear hlk
  have HD2 : Hid (∀ w', Below w.heap.size w.drew w' → w'.cell? ⟨q, 0, none⟩ = some (.slice (some ⟨g, off, none⟩) ls.length lcap) ∧ w'.cell? ⟨g, off + k, none⟩ = some (.string lk) ∧ w'.frozen? ⟨g, off + k, none⟩ = false) :=
    hidd (fun w' hb' => ⟨(hb'.cell (p := ⟨q, 0, none⟩) hq).trans hc0, (hb'.cell (p := ⟨g, off + k, none⟩) hgl).trans hcx, (hb'.frozen (p := ⟨g, off + k, none⟩) hgl).trans hfx⟩)
  have hgf : ∀ b, (Value.slice (some ⟨g, off, none⟩) ls.length lcap).ownBlock = some b ↔ b = g := fun b => by simp [Value.ownBlock, eq_comm]
  go_enter Tryz.func42, Tryz.ntmps42
  go_upto_region 0 with fail
  go_cut [] (fun wx => ∃ w', Below w.heap.size w w' ∧ wx = w'.setCell ⟨g, off + k, none⟩ (.string (turn lk bit)))
  case first =>
    go_region_with ((go_at_call 64; refine (rturned_any lk bit _ hb HZ.out).mono ?_; rintro e w' ⟨rfl, hbl⟩; obtain ⟨hd3, hc3, hf3⟩ := HD2.out w' hbl))
    all_goals (go_wp2_with fail; go_meet; exact ⟨_, (Below.refl _ _).drew.trans hbl, rfl⟩)
  case rest =>
    obtain ⟨w2, hbl, rfl⟩ := hcut
    have h2 := h.ob hbl (Nat.le_refl _)
    have hfr := (Fr.ob (S := drS q (.slice (some ⟨g, off, none⟩) ls.length lcap) (.slice wa ws.length wcap)) hbl).setCell (p := ⟨g, off + k, none⟩) (.inl (.inr (.inl rfl))) (.string (turn lk bit))
    have hh := h2.head.other (a := ⟨g, off + k, none⟩) (fun e => hgq e.symm) (.string (turn lk bit))
    have hl := h2.l.setAt hpos (j := k) (by omega) (.string (turn lk bit))
    have hw := h2.wait.fr (S := fun b => b = g) ((Fr.refl (fun b => b = g) w2).setCell (p := ⟨g, off + k, none⟩) (.inl rfl) (.string (turn lk bit))) (fun b hb e => h.dis b ((hgf b).2 e) hb)
    generalize w2.setCell ⟨g, off + k, none⟩ (.string (turn lk bit)) = W at *
    have hbl2 := hw.blk
    have hlb := hl.blk
    have hlen0 := h.inr
    have hdis := h.dis
    clear h h2 hc0 hcx hfx HD2 hbl
    go_wp2_with fail
    go_loopw [6] (fun s wr => ∃ i : Nat, i ≤ ws.length ∧ s = .int .i64 (i : Int) ∧ Ow (fun g => g ≠ q) wr 130 2 (.slice wa ws.length wcap) ws.length (wcells (turnTo k bit ws i)) ∧ Fr (fun b => (Value.slice wa ws.length wcap).ownBlock = some b) W wr) (fun s _ => ws.length - (intOf s).toNat)
    case atStart => exact ⟨0, Nat.zero_le _, rfl, by simpa [turnTo, turnW] using hw, Fr.refl _ _⟩
    case round =>
      obtain ⟨i, hi, rfl, hown, hfri⟩ := hrel
      have hhd := hh.fr hfri (fun e => (hbl2 q e).1 rfl)
      have hc1 := hhd.cell (i := 1) (v := .slice wa ws.length wcap) rfl
      by_cases hlt : i < ws.length
      · obtain ⟨w1, w2'⟩ := turnTo_cell (k := k) (bit := bit) hlt
        obtain ⟨b, boff, rfl⟩ := hown.addr (by omega)
        have e1 := hown.get w1
        have e2 : wr.cell? ⟨b, boff + i * 2 + 1, none⟩ = _ := hown.get w2'
        have hf2 := hown.frozen (by omega) (boff + i * 2 + 1)
        have hwz := hz.w i hlt
        have q3 : (0 : Int) ≤ (i : Int) := by omega
        have q4 : (i : Int) < (ws.length : Int) := by omega
        by_cases hx : ws[i].1 = k
        · have hxe : ((ws[i].1 : Int) == (k : Int)) = true := by simp [hx]
          have HT := hidd (turnTo_hit (bit := bit) hlt hx)
          have HW := hidd hwz
          have hbA := World.block_lt_of_cell? _ _ e2
          have hpA := hhd.lt
          clear w1 w2' hwz hx
          generalize ws[i] = x at *
          have HD3 : Hid (∀ w', Below wr.heap.size wr.drew w' → w'.cell? ⟨q, 1, none⟩ = some (.slice (some ⟨b, boff, none⟩) ws.length wcap) ∧ w'.cell? ⟨b, boff + i * 2 + 1, none⟩ = some (.string x.2) ∧ w'.frozen? ⟨b, boff + i * 2 + 1, none⟩ = false) :=
            hidd (fun w' hb' => ⟨(hb'.cell (p := ⟨q, 1, none⟩) hpA).trans hc1, (hb'.cell (p := ⟨b, boff + i * 2 + 1, none⟩) hbA).trans e2, (hb'.frozen (p := ⟨b, boff + i * 2 + 1, none⟩) hbA).trans hf2⟩)
          go_wp2_with fail
          go_region_with ((go_at_call 64; refine (rturned_any x.2 bit _ hb HW.out).mono ?_; rintro e w' ⟨rfl, hbl'⟩; obtain ⟨hd3, hc3, hf3⟩ := HD3.out w' hbl'))
          all_goals
            go_wp2_with fail
            go_roundw
            case rel => exact ⟨i + 1, hlt, by go_num, by rw [HT.out]; exact (hown.drew.ob hbl').setAt (by omega) (j := i * 2 + 1) (by omega) _, ((hfri.drew).trans (Fr.ob hbl')).setCell (p := ⟨b, boff + i * 2 + 1, none⟩) (.inl rfl) _⟩
            case measure => simp [intOf]; omega
        · have hxe : ((ws[i].1 : Int) == (k : Int)) = false := by simp; omega
          have HT := hidd (turnTo_miss (bit := bit) hlt hx)
          clear w1 w2' hwz hx
          generalize ws[i] = x at *
          go_wp2_with fail
          go_roundw
          case rel => exact ⟨i + 1, hlt, by go_num, by rw [HT.out]; exact hown, hfri⟩
          case measure => simp [intOf]; omega
      · obtain rfl : ws.length = i := by omega
        have hl2 := hl.fr hfri (fun b e1 e2 => hdis b e1 e2)
        have hfull : turnTo k bit ws ws.length = turnW k bit ws := by simp [turnTo]
        rw [hfull] at hown
        have hwl : (turnW k bit ws).length = ws.length := by simp [turnW]
        have hcs : (ls.set k (turn lk bit)).length = ls.length := by simp
        have HWL := hidd hwl
        have HCS := hidd hcs
        clear hfull hwl hcs
        go_wp2_with fail
        go_end0
        unfold RrPost
        rw [HLK.out]
        refine ⟨⟨_, rfl⟩, ⟨?_, ?_, ?_, hdis, ?_⟩, ?_⟩
        · exact hhd
        · rw [HCS.out, List.map_set]; exact hl2
        · rw [HWL.out]; exact hown
        · intro x hx
          rw [HCS.out]
          unfold turnW at hx
          obtain ⟨y, hy, rfl⟩ := List.mem_map.1 hx
          have := hlen0 y hy
          split <;> exact this
        · exact hfr.trans' hfri (fun _ _ x => x) (fun _ _ x => .inr (.inr x))
end Go.Proofs.YtcpilhembdphoaaGreatDoor
