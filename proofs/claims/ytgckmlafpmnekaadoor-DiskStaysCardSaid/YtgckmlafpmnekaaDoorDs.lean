/- The walk of stillroomlaw2.DiskStays. Condition: the arguments are there, the sentinel errors read as listed. -/
import Derived.Test.YtgckmlafpmnekaaDoorSpun
import Derived.Test.YtgckmlafpmnekaaDoorLaw
namespace Go.Proofs.YtgckmlafpmnekaaDoor
open Go.RowKit Go.Shelf

structure Acted where
  kind : ByteArray
  s : ByteArray
  k : Int
  bit : Int
  keep : List Int

/-- The argument: a list of acts. -/
def Acts (w : World) (a : Option Addr) (L : List Acted) : Prop :=
  ∀ i (h : i < L.length), ∃ b off kv, a = some ⟨b, off, none⟩ ∧ w.cell? ⟨b, off + i * 5, none⟩ = some (.string L[i].kind) ∧ w.cell? ⟨b, off + i * 5 + 1, none⟩ = some (.string L[i].s) ∧ w.cell? ⟨b, off + i * 5 + 2, none⟩ = some (.int .i64 L[i].k) ∧
    w.cell? ⟨b, off + i * 5 + 3, none⟩ = some (.int .i64 L[i].bit) ∧ w.cell? ⟨b, off + i * 5 + 4, none⟩ = some kv ∧ Sl w kv (icells L[i].keep) L[i].keep.length 1

/-- A text that block j may hold: zeros, or what an act wrote there. -/
def Okk (L : List Acted) (j : Nat) (s : ByteArray) : Prop := s = zb 16 ∨ ∃ i, ∃ h : i < L.length, (L[i].kind.toList == [98, 97, 114, 114, 105, 101, 114]) = false ∧ L[i].k = (j : Int) ∧ L[i].s = s

/-- A disk in a round of the statement. -/
structure DkSt (w0 w : World) (p r n m : Nat) (v : Value) (ls : List ByteArray) (ws : List (Nat × ByteArray)) (L : List Acted) : Prop where
  dk : DkAt w p r v ls ws
  len : ls.length = n
  wlen : ws.length ≤ m
  sz : Sz ls ws
  lo : ∀ j (h : j < ls.length), Okk L j ls[j]
  wo : ∀ x ∈ ws, Okk L x.1 x.2
  own : ∀ b, v.ownBlock = some b → w0.heap.size ≤ b
  below : Below w0.heap.size w0 w

def DkR (w0 w : World) (p r n m : Nat) (L : List Acted) : Prop := ∃ v ls ws, DkSt w0 w p r n m v ls ws L

theorem DkSt.wr {w0 w w' : World} {p r n m : Nat} {v v' : Value} {ls : List ByteArray} {ws : List (Nat × ByteArray)} {L : List Acted} (h : DkSt w0 w p r n m v ls ws L) (hp : w0.heap.size ≤ p) (hr : w0.heap.size ≤ r) {k : Nat} {s : ByteArray} (hs : s.size = 16) (ho : Okk L k s)
    (h1 : DkAt w' p r v' ls (ws ++ [(k, s)])) (h2 : ∀ b, v'.ownBlock = some b → v.ownBlock = some b ∨ w.heap.size ≤ b) (h3 : Fr (dkS p r v) w w') : DkSt w0 w' p r n (m + 1) v' ls (ws ++ [(k, s)]) L where
  dk := h1
  len := h.len
  wlen := by have := h.wlen; simp; omega
  sz := ⟨h.sz.l, fun i hi => by
    by_cases e : i < ws.length
    · rw [List.getElem_append_left e]; exact h.sz.w i e
    · have : i = ws.length := by simp at hi; omega
      subst this
      simpa using hs⟩
  lo := h.lo
  wo := fun x hx => by
    rcases List.mem_append.1 hx with hx | hx
    · exact h.wo x hx
    · simp at hx; subst hx; exact ho
  own := fun b hb => by
    rcases h2 b hb with e | e
    · exact h.own b e
    · exact Nat.le_trans h.below.size e
  below := h.below.trans (h3.below h.below.size (fun i hi => by
    rcases hi with rfl | rfl | hi
    · exact hp
    · exact hr
    · exact h.own i hi))

theorem DkSt.cr {w0 w w' : World} {p r n m : Nat} {v : Value} {ls : List ByteArray} {ws : List (Nat × ByteArray)} {L : List Acted} (h : DkSt w0 w p r n m v ls ws L) (hp : w0.heap.size ≤ p) (hr : w0.heap.size ≤ r) (keep : Nat → Bool)
    (h1 : DkAt w' p r (.slice none 0 0) (crTo keep ls ws ws.length) []) (h3 : Fr (fun b => b = p ∨ b = r) w w') : DkSt w0 w' p r n 0 (.slice none 0 0) (crTo keep ls ws ws.length) [] L where
  dk := h1
  len := by rw [crTo_len]; exact h.len
  wlen := Nat.le_refl _
  sz := ⟨fun i hi => crTo_src (Q := fun _ s => s.size = 16) h.sz.l (fun x hx => by obtain ⟨i, hi, rfl⟩ := List.getElem_of_mem hx; exact h.sz.w i hi) ws.length i hi, fun i hi => by simp at hi⟩
  lo := fun j hj => crTo_src (Q := Okk L) h.lo h.wo ws.length j hj
  wo := fun x hx => by simp at hx
  own := fun b hb => by simp [Value.ownBlock] at hb
  below := h.below.trans (h3.below h.below.size (fun i hi => by rcases hi with rfl | rfl <;> assumption))

theorem DkSt.ob {w0 w w' : World} {p r n m : Nat} {v : Value} {ls : List ByteArray} {ws : List (Nat × ByteArray)} {L : List Acted} (h : DkSt w0 w p r n m v ls ws L) {B : Nat} (hb : Below B w w') (hB : w.heap.size ≤ B) : DkSt w0 w' p r n m v ls ws L :=
  { h with dk := h.dk.ob hb hB, below := h.below.trans (hb.mono (Nat.le_trans h.below.size hB)) }
theorem DkSt.mono {w0 w : World} {p r n m m' : Nat} {v : Value} {ls : List ByteArray} {ws : List (Nat × ByteArray)} {L : List Acted} (h : DkSt w0 w p r n m v ls ws L) (hm : m ≤ m') : DkSt w0 w p r n m' v ls ws L := { h with wlen := Nat.le_trans h.wlen hm }
theorem DkSt.new {w0 w : World} {p r n : Nat} {L : List Acted} (h : DkAt w p r (.slice none 0 0) (List.replicate n (zb 16)) []) (hb : Below w0.heap.size w0 w) : DkSt w0 w p r n 0 (.slice none 0 0) (List.replicate n (zb 16)) [] L where
  dk := h
  len := by simp
  wlen := Nat.le_refl _
  sz := ⟨fun i hi => by rw [List.getElem_replicate]; exact zb_size 16, fun i hi => by simp at hi⟩
  lo := fun j hj => .inl (by rw [List.getElem_replicate])
  wo := fun x hx => by simp at hx
  own := fun b hb => by simp [Value.ownBlock] at hb
  below := hb

/-- Is a text zeros, or what one of the first i acts wrote there? -/
def wq (L : List Acted) (j : Nat) (tj : ByteArray) (i : Nat) : Bool := (tj.toList == (zb 16).toList) || (L.take i).any fun a => !(a.kind.toList == [98, 97, 114, 114, 105, 101, 114]) && ((a.k == (j : Int)) && (a.s.toList == tj.toList))
theorem wq_succ {L : List Acted} {j : Nat} {tj : ByteArray} {i : Nat} (h : i < L.length) : wq L j tj (i + 1) = (wq L j tj i || (!(L[i].kind.toList == [98, 97, 114, 114, 105, 101, 114]) && ((L[i].k == (j : Int)) && (L[i].s.toList == tj.toList)))) := by
  unfold wq
  rw [List.take_succ_eq_append_getElem h, List.any_append, ← Bool.or_assoc]
  simp
theorem wq_true {L : List Acted} {j : Nat} {tj : ByteArray} (h : Okk L j tj) : wq L j tj L.length = true := by
  unfold wq
  rw [List.take_length, Bool.or_eq_true]
  rcases h with rfl | ⟨i, hi, h1, h2, rfl⟩
  · left; simp
  · right
    rw [List.any_eq_true]
    exact ⟨L[i], List.getElem_mem _, by rw [h1, h2]; simp⟩
theorem rot_rot {ls : List ByteArray} {k bit : Nat} (hk : k < ls.length) : (ls.set k (turn (ls.getD k ByteArray.empty) bit)).set k (turn ((ls.set k (turn (ls.getD k ByteArray.empty) bit)).getD k ByteArray.empty) bit) = ls := by
  rw [List.set_set]
  have e1 : (ls.set k (turn (ls.getD k ByteArray.empty) bit)).getD k ByteArray.empty = turn (ls.getD k ByteArray.empty) bit := by
    rw [List.getD_eq_getElem?_getD, List.getElem?_set_self hk]; rfl
  rw [e1, turn_turn]
  apply List.ext_getElem
  · simp
  · intro i h1 h2
    rw [List.getElem_set]
    split
    · rename_i e; subst e
      rw [List.getD_eq_getElem?_getD, List.getElem?_eq_getElem hk]; rfl
    · rfl
theorem Sz.rot {ls : List ByteArray} {ws : List (Nat × ByteArray)} (h : Sz ls ws) (k bit : Nat) : Sz (ls.set k (turn (ls.getD k ByteArray.empty) bit)) (turnW k bit ws) where
  l := fun i hi => by
    rw [List.getElem_set]
    split
    · rename_i e; subst e
      have hk : k < ls.length := by simpa using hi
      rw [turn_size, List.getD_eq_getElem?_getD, List.getElem?_eq_getElem hk]
      exact h.l k hk
    · exact h.l i (by simpa using hi)
  w := fun i hi => by
    have hi' : i < ws.length := by simpa [turnW] using hi
    have := h.w i hi'
    simp only [turnW, List.getElem_map]
    split
    · simpa [turn_size] using this
    · exact this

/-- The texts that were seen. -/
def seenL (ls : List ByteArray) (ws : List (Nat × ByteArray)) (j : Nat) : List Value := (List.range j).map fun i => Value.string (rdW ws i (ls.getD i ByteArray.empty))
theorem seenL_succ (ls : List ByteArray) (ws : List (Nat × ByteArray)) (j : Nat) : seenL ls ws (j + 1) = seenL ls ws j ++ [.string (rdW ws j (ls.getD j ByteArray.empty))] := by simp [seenL, List.range_succ]

set_option maxRecDepth 100000 in
set_option maxHeartbeats 40000000 in
theorem ds_walk (G : List Nat) (hG : 1 ∈ G) (E : Nat → Addr) (n : Nat) (a : Option Addr) (cap : Nat) (L : List Acted) (keep : List Int) (kcap : Nat) (ka : Option Addr) (k bit : Int) (w : World) (henv : Env G w.heap.size w E) (hn1 : 1 ≤ n) (hn2 : n ≤ 40) (hl : L.length ≤ 40) (hkl : keep.length ≤ 60)
    (hL : Acts w a L) (hk : Sl w (.slice ka keep.length kcap) (icells keep) keep.length 1) :
    Calls Tryd.prog 4 #[.int .i64 (n : Int), .slice a L.length cap, .slice ka keep.length kcap, .int .i64 k, .int .i64 bit] w fun e w' => e = .returned (.bool true) ∧ Below w.heap.size w w' := by
  have hl' : ¬ (40 : Int) < (L.length : Int) := by omega
  have hk' : ¬ (60 : Int) < (keep.length : Int) := by omega
  have d1 : decide ((n : Int) < 1) = false := by simp; omega
  have d1' : decide (n < 1) = false := by simp; omega
  have d2 : decide ((40 : Int) < (n : Int)) = false := by simp; omega
  have d2' : decide (40 < n) = false := by simp; omega
  go_enter Tryd.func4, Tryd.ntmps4
  go_wp2_with fail
  refine (spun_true w).mono ?_
  rintro e w1 ⟨rfl, hb1⟩
  go_wp2_with fail
  refine (dnew_ok n w1 hn1 (by omega)).mono ?_
  rintro e w2 ⟨p, r, rfl, hdk, hp, hr, hb2⟩
  have hB2 := hb1.trans (hb2.mono hb1.size)
  have hbp : w.heap.size ≤ p := Nat.le_trans hb1.size hp
  have hbr : w.heap.size ≤ r := Nat.le_trans hb1.size hr
  have hst := DkSt.new (L := L) hdk hB2
  clear hdk hb1 hb2 hp hr hB2
  go_wp2_with fail
  go_loopw [14] (fun s wr => ∃ i : Nat, i ≤ L.length ∧ s = .int .i64 (i : Int) ∧ DkR w wr p r n i L) (fun s _ => L.length - (intOf s).toNat)
  case atStart => exact ⟨0, Nat.zero_le _, rfl, _, _, _, hst⟩
  case round =>
    obtain ⟨i, hi, rfl, v, ls, ws, hst⟩ := hrel
    by_cases hlt : i < L.length
    · obtain ⟨b, off, kv', rfl, c0, c1, c2, -⟩ := hL i hlt
      have hB := hst.below
      rw [← hB.cell (World.block_lt_of_cell? w _ c0)] at c0
      rw [← hB.cell (World.block_lt_of_cell? w _ c1)] at c1
      rw [← hB.cell (World.block_lt_of_cell? w _ c2)] at c2
      have hokk : (L[i].kind.toList == [98, 97, 114, 114, 105, 101, 114]) = false → ∀ j : Nat, L[i].k = (j : Int) → Okk L j L[i].s := fun h1 j h2 => .inr ⟨i, hlt, h1, h2, rfl⟩
      have HOK := hidd hokk
      have q1 : (0 : Int) ≤ (i : Int) := by omega
      have q2 : (i : Int) < (L.length : Int) := by omega
      clear hokk hB
      generalize L[i] = x at *
      by_cases h40 : 40 < x.s.size
      · have h40' : (40 : Int) < (x.s.size : Int) := by omega
        have hB := hst.below
        go_wp2_with fail
        go_ret
        exact ⟨rfl, hB⟩
      · have h40' : ¬ (40 : Int) < (x.s.size : Int) := by omega
        cases hkb : x.kind.toList == [98, 97, 114, 114, 105, 101, 114]
        · have HO2 := hidd (HOK.out hkb)
          have hst' := hst.ob ((Below.refl _ wr).drew) (Nat.le_refl _)
          have henv' := henv.below hst'.below (Nat.le_refl _)
          have hln := hst.len
          have HLN := hidd hln
          clear hln
          go_wp2_with fail
          by_cases hbad : badK n x.k = true ∨ x.s.size ≠ 16
          · have HB : Hid (badK ls.length x.k = true ∨ x.s.size ≠ 16) := by rw [HLN.out]; exact hbad
            clear hbad
            go_region_with ((go_at_call 21; refine (write_bad E p r _ _ _ x.k x.s _ hst'.dk HB.out _ _ henv' hG).mono ?_; rintro e w' ⟨rfl, rfl⟩))
            all_goals
              go_wp2_with fail
              go_roundw
              case rel => exact ⟨i + 1, by omega, by go_num, _, _, _, hst'.mono (by omega)⟩
              case measure => simp [intOf]; omega
          · have hb' : badK n x.k = false := by
              cases hh : badK n x.k
              · rfl
              · exact absurd (.inl hh) hbad
            have hs16 : x.s.size = 16 := by
              apply Decidable.byContradiction
              exact fun hh => hbad (.inr hh)
            obtain ⟨hk0, hkn⟩ : 0 ≤ x.k ∧ x.k < (n : Int) := by
              unfold badK at hb'
              simp at hb'
              omega
            obtain ⟨kk, hkk⟩ := Int.eq_ofNat_of_zero_le hk0
            have HS := hidd hs16
            have HOF := hidd (HO2.out kk hkk)
            rw [hkk] at c2 hkn
            clear hbad hb' hs16 hk0 hkk
            have hkl' : kk < ls.length := by have := HLN.out; omega
            have hw6 := hst.wlen
            go_region_with ((go_at_call 21; refine (write_ok p r _ _ _ kk x.s _ hst'.dk hkl' HS.out (by omega)).mono ?_; rintro e w' ⟨rfl, v', hdk2, hv2, hf2⟩))
            all_goals
              go_wp2_with fail
              go_roundw
              case rel => exact ⟨i + 1, by omega, by go_num, _, _, _, hst'.wr hbp hbr HS.out HOF.out hdk2 hv2 hf2⟩
              case measure => simp [intOf]; omega
        · go_wp2_with fail
          refine (barrier_any p r _ _ _ wr hst.dk).mono ?_
          rintro e W ⟨⟨u, rfl⟩, hdk2, hf2⟩
          have hst2 := hst.cr hbp hbr (fun _ => true) hdk2 hf2
          have hcl := hst2.len
          generalize crTo (fun _ => true) ls ws ws.length = lsb at *
          clear hdk2 hf2 hst c0 c1 c2 hcl
          go_wp2_with fail
          generalize wr = W9 at *
          go_loopw [15] (fun s wr => ∃ j : Nat, j ≤ n ∧ s = .int .i64 (j : Int) ∧ DkSt w wr p r n 0 (.slice none 0 0) lsb [] L) (fun s _ => n - (intOf s).toNat)
          case atStart => exact ⟨0, Nat.zero_le _, rfl, hst2⟩
          case round =>
            obtain ⟨j, hj, rfl, hst3⟩ := hrel
            by_cases hjn : j < n
            · have hjl : j < lsb.length := by have := hst3.len; omega
              have q3 : (j : Int) < (n : Int) := by omega
              obtain ⟨tj, htj⟩ : ∃ tj, rdW [] j (lsb.getD j ByteArray.empty) = tj := ⟨_, rfl⟩
              have HTJ := hidd htj
              clear htj
              go_wp2_with fail
              refine (read_ok p r _ _ _ j wr hst3.dk hjl).mono ?_
              rintro e w3 ⟨rfl, hb3⟩
              have hst4 := hst3.ob hb3 (Nat.le_refl _)
              rw [HTJ.out]
              clear hst3 hb3
              go_wp2_with fail
              refine (crash_any p r _ _ _ (.slice none 0 0) [] w3 hst4.dk (Sl.nil _ _) (by intro b hb; simp [Value.ownBlock] at hb)).mono ?_
              rintro e w4 ⟨⟨u, rfl⟩, hdk4, hf4⟩
              have hst5 := hst4.cr hbp hbr (keptB []) hdk4 hf4
              have hcr : crTo (keptB []) lsb [] ([] : List (Nat × ByteArray)).length = lsb := rfl
              rw [hcr] at hst5
              clear hst4 hdk4 hf4 hcr
              go_wp2_with fail
              refine (read_ok p r _ _ _ j w4 hst5.dk hjl).mono ?_
              rintro e w5 ⟨rfl, hb5⟩
              have hst6 := hst5.ob hb5 (Nat.le_refl _)
              rw [HTJ.out]
              clear hst5 hb5
              go_wp2_with fail
              refine (waits_any p r _ _ _ w5 hst6.dk).mono ?_
              rintro e w5' ⟨rfl, rfl⟩
              go_wp2_with fail
              go_roundw
              case rel => exact ⟨j + 1, by omega, by go_num, hst6⟩
              case measure => simp [intOf]; omega
            · obtain rfl : n = j := by omega
              go_wp2_with fail
              go_roundw
              case rel => exact ⟨i + 1, by omega, by go_num, _, _, _, hst3.mono (by omega)⟩
              case measure => simp [intOf]; omega
    · obtain rfl : L.length = i := by omega
      obtain ⟨i0, hi0, hz0, hz1, hz2⟩ := info_parts infoS
      obtain ⟨W0, hW0⟩ : ∃ W0, W0 = wr := ⟨_, rfl⟩
      rw [← hW0] at hst ⊢
      clear hW0
      have hlt0 := hst.dk.lt
      have hsz0 := hst.below.size
      go_wp2_with fail
      go_loopw [20, 21] (fun v s wr => ∃ j : Nat, j ≤ n ∧ s = .int .i64 (j : Int) ∧ wr.ownsRow W0.heap.size 9 1 v j (seenL ls ws j) ∧ Below W0.heap.size W0 wr) (fun _ s _ => n - (intOf s).toNat)
      case atStart => exact ⟨0, Nat.zero_le _, rfl, by simpa [seenL] using World.ownsRow_nil W0 W0.heap.size 9 1, Below.refl _ _⟩
      case round =>
        obtain ⟨j, hj, rfl, hown, hb⟩ := hrel
        obtain ⟨ad, acap, rfl⟩ := owns_slice hown
        by_cases hjn : j < n
        · have hst1 := hst.ob hb (Nat.le_refl _)
          have hjl : j < ls.length := by have := hst.len; omega
          have q3 : (j : Int) < (n : Int) := by omega
          have HSN := hidd (seenL_succ ls ws j)
          go_wp2_with fail
          refine (read_ok p r _ _ _ j wr hst1.dk hjl).mono ?_
          rintro e w3 ⟨rfl, hb3⟩
          have hown3 := (Fr.ob (S := fun _ => False) hb3).owns hown (fun _ _ x => x)
          have hb3' := hb.trans (hb3.mono hb.size)
          have hsz3 := hb3'.size
          obtain ⟨tj, htj⟩ : ∃ tj, rdW ws j (ls.getD j ByteArray.empty) = tj := ⟨_, rfl⟩
          rw [htj] at HSN ⊢
          clear hst1 hb3 hown htj hb
          go_wp2_with (at_builtin; refine wpList_append_own _ rfl _ _ 46 rfl W0.heap.size 9 i0 (.string ⟨#[]⟩) 1 16 Tryd.underlying46 hi0 hz0 hz1 hz2 rfl (by decide) _ _ _ rfl (hown3.alloc _) ⟨w3.heap.size, 0, none⟩ 1 1 [.string tj] rfl rfl ?c1 ?c2 ?c3 ?c4 ?c5 ?_)
          case c1 => exact cell_one_new' _ _ _
          case c2 => simp [Value.oneCell']
          case c3 => unfold maxLen; omega
          case c4 => omega
          case c5 => simp; omega
          intro v' w4 hown' hgrow _
          go_wp2_with fail
          go_roundw
          case rel => exact ⟨j + 1, hjn, by go_num, by rw [HSN.out]; exact hown', (hb3'.alloc hsz3 _).grown hgrow (by simp; omega) (fun k hk => (hown3.lt k hk).1)⟩
          case measure => simp [intOf]; omega
        · obtain rfl : n = j := by omega
          have hst1 := hst.ob hb (Nat.le_refl _)
          have hse := Sl.of_owns hown
          have hsb : ∀ b, dkS p r v b → (Value.slice ad n acap).ownBlock ≠ some b := fun b h1 h2 => by
            have := hlt0 b h1
            have := (hown.lt b h2).1
            omega
          have hlow : ∀ b, dkS p r v b → w.heap.size ≤ b := fun b h1 => by
            rcases h1 with rfl | rfl | h1
            · exact hbp
            · exact hbr
            · exact hst.own b h1
          clear hst hb hown hlt0 hsz0
          generalize wr = W1 at *
          have hse1 := hse
          have hln := hst1.len
          have HLN := hidd hln
          clear hln hse
          by_cases hrot : badK n k = true ∨ bit < 0 ∨ 128 ≤ bit
          · have HB : Hid (badK ls.length k = true ∨ bit < 0 ∨ 128 ≤ bit) := by rw [HLN.out]; exact hrot
            have henv1 := henv.below hst1.below (Nat.le_refl _)
            clear hrot
            go_wp2_with fail
            refine (rot_bad E p r _ _ _ k bit W1 hst1.dk HB.out _ _ henv1 hG).mono ?_
            rintro e w3 ⟨rfl, rfl⟩
            have hst2 := hst1
            have hse2 := hse1
            clear henv1 hst1 hse1 HB
            unfold erv
            go_wp2_with fail
            generalize W1 = W2 at *
            as_aux_lemma =>
              go_loopw [24] (fun s wr => ∃ j : Nat, j ≤ n ∧ s = .int .i64 (j : Int) ∧ Below W2.heap.size W2 wr) (fun s _ => n - (intOf s).toNat)
              case atStart => exact ⟨0, Nat.zero_le _, rfl, Below.refl _ _⟩
              case round =>
                obtain ⟨j, hj, rfl, hb⟩ := hrel
                have hst3 := hst2.ob hb (Nat.le_refl _)
                by_cases hjn : j < n
                · have hse3 := hse2.ob hb (Nat.le_refl _)
                  have hjl : j < ls.length := by have := HLN.out; omega
                  have q3 : (j : Int) < (n : Int) := by omega
                  have q4 : (0 : Int) ≤ (j : Int) := by omega
                  obtain ⟨tj, htj⟩ : ∃ tj, rdW ws j (ls.getD j ByteArray.empty) = tj := ⟨_, rfl⟩
                  have HTJ := hidd htj
                  go_wp2_with fail
                  refine (read_ok p r _ _ _ j wr hst3.dk hjl).mono ?_
                  rintro e w5 ⟨rfl, hb5⟩
                  rw [HTJ.out]
                  have hse5 := hse3.ob hb5 (Nat.le_refl _)
                  have hb5' := hb.trans (hb5.mono hb.size)
                  obtain ⟨sb, so, rfl, -, hcx, hcy⟩ := hse5.at1 hjn
                  have hse : (seenL ls ws n)[j] = .string tj := by simp [seenL, ← htj]
                  rw [hse] at hcy
                  clear hst3 hb hse3 hb5 hse htj hcx hse5
                  go_wp2_with fail
                  go_roundw
                  case rel => exact ⟨j + 1, hjn, by go_num, hb5'⟩
                  case measure => simp [intOf]; omega
                · obtain rfl : n = j := by omega
                  have hk3 := hk.ob hst3.below (Nat.le_refl _)
                  clear hst2 hse2 hb
                  go_wp2_with fail
                  refine (ownInts_any _ keep wr hk3 (by omega)).mono ?_
                  rintro e w5 ⟨oa, oc, rfl, ho, hb5⟩
                  have hst5 := hst3.ob hb5 (Nat.le_refl _)
                  have hos := ho.sl
                  have hop : ∀ b, (Value.slice oa keep.length oc).ownBlock = some b → b ≠ p ∧ b ≠ r := fun b e => by
                    have h1 := (ho.blk b e).1
                    have h2 := hst3.dk.lt p (.inl rfl)
                    have h3 := hst3.dk.lt r (.inr (.inl rfl))
                    omega
                  clear hst3 hk3 ho hb5
                  go_wp2_with fail
                  refine (crash_any p r _ _ _ _ keep w5 hst5.dk hos hop).mono ?_
                  rintro e w6 ⟨⟨u, rfl⟩, hdk6, hf6⟩
                  have hst6 := hst5.cr hbp hbr (keptB keep) hdk6 hf6
                  clear hst5 hos hop hdk6 hf6 HLN
                  generalize crTo (keptB keep) ls ws ws.length = lsb at *
                  go_wp2_with fail
                  go_loopw [27] (fun s wr => ∃ j : Nat, j ≤ n ∧ s = .int .i64 (j : Int) ∧ DkSt w wr p r n 0 (.slice none 0 0) lsb [] L) (fun s _ => n - (intOf s).toNat)
                  case atStart => exact ⟨0, Nat.zero_le _, rfl, hst6⟩
                  case round =>
                    obtain ⟨j, hj, rfl, hst7⟩ := hrel
                    clear hst6
                    by_cases hjn : j < n
                    · have hjl : j < lsb.length := by have := hst7.len; omega
                      have q3 : (j : Int) < (n : Int) := by omega
                      obtain ⟨tj, htj⟩ : ∃ tj, rdW [] j (lsb.getD j ByteArray.empty) = tj := ⟨_, rfl⟩
                      have HTJ := hidd htj
                      have HOK : Hid (Okk L j tj) := by
                        have := hst7.lo j hjl
                        have e : lsb[j] = tj := by rw [← htj]; simp [rdW, List.getD_eq_getElem?_getD, List.getElem?_eq_getElem hjl]
                        rw [e] at this
                        exact this
                      clear htj
                      go_wp2_with fail
                      refine (read_ok p r _ _ _ j wr hst7.dk hjl).mono ?_
                      rintro e w7 ⟨rfl, hb7⟩
                      rw [HTJ.out]
                      have hst8 := hst7.ob hb7 (Nat.le_refl _)
                      clear hst7 hb7
                      go_wp2_with fail
                      refine (zeros_any 16 w7 (by omega)).mono ?_
                      rintro e w7' ⟨rfl, rfl⟩
                      go_wp2_with fail
                      have hB8 := hst8.below
                      go_loop [30, 31] (fun f s => ∃ i : Nat, i ≤ L.length ∧ s = .int .i64 (i : Int) ∧ f = .bool (wq L j tj i)) (fun _ s => L.length - (intOf s).toNat)
                      case atStart => exact ⟨0, Nat.zero_le _, rfl, by simp [wq]⟩
                      case round =>
                        obtain ⟨i, hi, rfl, rfl⟩ := hrel
                        by_cases hlt : i < L.length
                        · obtain ⟨b, off, kv', rfl, c0, c1, c2, -⟩ := hL i hlt
                          rw [← hB8.cell (World.block_lt_of_cell? w _ c0)] at c0
                          rw [← hB8.cell (World.block_lt_of_cell? w _ c1)] at c1
                          rw [← hB8.cell (World.block_lt_of_cell? w _ c2)] at c2
                          have HQ := hidd (wq_succ (j := j) (tj := tj) hlt)
                          have q5 : (0 : Int) ≤ (i : Int) := by omega
                          have q6 : (i : Int) < (L.length : Int) := by omega
                          generalize L[i] = x at *
                          generalize wq L j tj i = wi at *
                          cases hkb : x.kind.toList == [98, 97, 114, 114, 105, 101, 114]
                          · have hkb2 : (x.kind.toList != [98, 97, 114, 114, 105, 101, 114]) = true := by simp [bne, hkb]
                            by_cases hkk : x.k = (j : Int)
                            · have hkk2 : (x.k == (j : Int)) = true := by simp [hkk]
                              cases hss : x.s.toList == tj.toList
                              · have H1 : Hid (wq L j tj (i + 1) = wi) := hidd (by rw [HQ.out, hss]; simp)
                                go_wp2_with fail
                                go_round
                                case rel => exact ⟨i + 1, hlt, by go_num, by rw [H1.out]⟩
                                case measure => simp [intOf]; omega
                              · have H1 : Hid (wq L j tj (i + 1) = true) := hidd (by rw [HQ.out, hss, hkk2, hkb]; simp)
                                go_wp2_with fail
                                go_round
                                case rel => exact ⟨i + 1, hlt, by go_num, by rw [H1.out]⟩
                                case measure => simp [intOf]; omega
                            · have hkk2 : (x.k == (j : Int)) = false := by simp [hkk]
                              have H1 : Hid (wq L j tj (i + 1) = wi) := hidd (by rw [HQ.out, hkk2]; simp)
                              go_wp2_with fail
                              go_round
                              case rel => exact ⟨i + 1, hlt, by go_num, by rw [H1.out]⟩
                              case measure => simp [intOf]; omega
                          · have hkb2 : (x.kind.toList != [98, 97, 114, 114, 105, 101, 114]) = false := by simp [bne, hkb]
                            have H1 : Hid (wq L j tj (i + 1) = wi) := hidd (by rw [HQ.out, hkb]; simp)
                            go_wp2_with fail
                            go_round
                            case rel => exact ⟨i + 1, hlt, by go_num, by rw [H1.out]⟩
                            case measure => simp [intOf]; omega
                        · obtain rfl : L.length = i := by omega
                          rw [wq_true HOK.out]
                          go_wp2_with fail
                          go_roundw
                          case rel => exact ⟨j + 1, hjn, by go_num, hst8⟩
                          case measure => simp [intOf]; omega
                    · obtain rfl : n = j := by omega
                      have hB := hst7.below
                      clear hst7
                      go_wp2_with fail
                      go_ret
                      exact ⟨rfl, hB⟩
          · have hb' : badK n k = false := by
              cases hh : badK n k
              · rfl
              · exact absurd (.inl hh) hrot
            have hbit : 0 ≤ bit ∧ bit < 128 := by omega
            obtain ⟨hk0, hkn⟩ : 0 ≤ k ∧ k < (n : Int) := by
              unfold badK at hb'
              simp at hb'
              omega
            obtain ⟨kk, rfl⟩ := Int.eq_ofNat_of_zero_le hk0
            obtain ⟨bb, rfl⟩ := Int.eq_ofNat_of_zero_le hbit.1
            have hkk : kk < ls.length := by have := HLN.out; omega
            have hbb : bb < 128 := by omega
            clear hrot hb' hbit hk0 hkn
            go_wp2_with fail
            refine (rot_ok p r _ _ _ kk bb W1 hst1.dk hst1.sz hkk hbb).mono ?_
            rintro e w3 ⟨rfl, hdk3, hf3⟩
            have hse3 := hse1.fr hf3 (fun b h1 h2 => hsb b h2 h1)
            have hB3 := hst1.below.trans (hf3.below hst1.below.size hlow)
            go_wp2_with fail
            refine (rot_ok p r _ _ _ kk bb w3 hdk3 (hst1.sz.rot kk bb) (by rw [List.length_set]; exact hkk) hbb).mono ?_
            rintro e w4 ⟨rfl, hdk4, hf4⟩
            have hse2 := hse3.fr hf4 (fun b h1 h2 => hsb b h2 h1)
            have hB4 := hB3.trans (hf4.below hB3.size hlow)
            rw [rot_rot hkk, turnW_turnW] at hdk4
            have hst2 : DkSt w w4 p r n L.length v ls ws L := { hst1 with dk := hdk4, below := hB4 }
            clear hdk3 hf3 hse3 hB3 hdk4 hf4 hB4 hst1 hse1 hkk hbb
            go_wp2_with fail
            generalize w4 = W2 at *
            as_aux_lemma =>
              go_loopw [24] (fun s wr => ∃ j : Nat, j ≤ n ∧ s = .int .i64 (j : Int) ∧ Below W2.heap.size W2 wr) (fun s _ => n - (intOf s).toNat)
              case atStart => exact ⟨0, Nat.zero_le _, rfl, Below.refl _ _⟩
              case round =>
                obtain ⟨j, hj, rfl, hb⟩ := hrel
                have hst3 := hst2.ob hb (Nat.le_refl _)
                by_cases hjn : j < n
                · have hse3 := hse2.ob hb (Nat.le_refl _)
                  have hjl : j < ls.length := by have := HLN.out; omega
                  have q3 : (j : Int) < (n : Int) := by omega
                  have q4 : (0 : Int) ≤ (j : Int) := by omega
                  obtain ⟨tj, htj⟩ : ∃ tj, rdW ws j (ls.getD j ByteArray.empty) = tj := ⟨_, rfl⟩
                  have HTJ := hidd htj
                  go_wp2_with fail
                  refine (read_ok p r _ _ _ j wr hst3.dk hjl).mono ?_
                  rintro e w5 ⟨rfl, hb5⟩
                  rw [HTJ.out]
                  have hse5 := hse3.ob hb5 (Nat.le_refl _)
                  have hb5' := hb.trans (hb5.mono hb.size)
                  obtain ⟨sb, so, rfl, -, hcx, hcy⟩ := hse5.at1 hjn
                  have hse : (seenL ls ws n)[j] = .string tj := by simp [seenL, ← htj]
                  rw [hse] at hcy
                  clear hst3 hb hse3 hb5 hse htj hcx hse5
                  go_wp2_with fail
                  go_roundw
                  case rel => exact ⟨j + 1, hjn, by go_num, hb5'⟩
                  case measure => simp [intOf]; omega
                · obtain rfl : n = j := by omega
                  have hk3 := hk.ob hst3.below (Nat.le_refl _)
                  clear hst2 hse2 hb
                  go_wp2_with fail
                  refine (ownInts_any _ keep wr hk3 (by omega)).mono ?_
                  rintro e w5 ⟨oa, oc, rfl, ho, hb5⟩
                  have hst5 := hst3.ob hb5 (Nat.le_refl _)
                  have hos := ho.sl
                  have hop : ∀ b, (Value.slice oa keep.length oc).ownBlock = some b → b ≠ p ∧ b ≠ r := fun b e => by
                    have h1 := (ho.blk b e).1
                    have h2 := hst3.dk.lt p (.inl rfl)
                    have h3 := hst3.dk.lt r (.inr (.inl rfl))
                    omega
                  clear hst3 hk3 ho hb5
                  go_wp2_with fail
                  refine (crash_any p r _ _ _ _ keep w5 hst5.dk hos hop).mono ?_
                  rintro e w6 ⟨⟨u, rfl⟩, hdk6, hf6⟩
                  have hst6 := hst5.cr hbp hbr (keptB keep) hdk6 hf6
                  clear hst5 hos hop hdk6 hf6 HLN
                  generalize crTo (keptB keep) ls ws ws.length = lsb at *
                  go_wp2_with fail
                  go_loopw [27] (fun s wr => ∃ j : Nat, j ≤ n ∧ s = .int .i64 (j : Int) ∧ DkSt w wr p r n 0 (.slice none 0 0) lsb [] L) (fun s _ => n - (intOf s).toNat)
                  case atStart => exact ⟨0, Nat.zero_le _, rfl, hst6⟩
                  case round =>
                    obtain ⟨j, hj, rfl, hst7⟩ := hrel
                    clear hst6
                    by_cases hjn : j < n
                    · have hjl : j < lsb.length := by have := hst7.len; omega
                      have q3 : (j : Int) < (n : Int) := by omega
                      obtain ⟨tj, htj⟩ : ∃ tj, rdW [] j (lsb.getD j ByteArray.empty) = tj := ⟨_, rfl⟩
                      have HTJ := hidd htj
                      have HOK : Hid (Okk L j tj) := by
                        have := hst7.lo j hjl
                        have e : lsb[j] = tj := by rw [← htj]; simp [rdW, List.getD_eq_getElem?_getD, List.getElem?_eq_getElem hjl]
                        rw [e] at this
                        exact this
                      clear htj
                      go_wp2_with fail
                      refine (read_ok p r _ _ _ j wr hst7.dk hjl).mono ?_
                      rintro e w7 ⟨rfl, hb7⟩
                      rw [HTJ.out]
                      have hst8 := hst7.ob hb7 (Nat.le_refl _)
                      clear hst7 hb7
                      go_wp2_with fail
                      refine (zeros_any 16 w7 (by omega)).mono ?_
                      rintro e w7' ⟨rfl, rfl⟩
                      go_wp2_with fail
                      have hB8 := hst8.below
                      go_loop [30, 31] (fun f s => ∃ i : Nat, i ≤ L.length ∧ s = .int .i64 (i : Int) ∧ f = .bool (wq L j tj i)) (fun _ s => L.length - (intOf s).toNat)
                      case atStart => exact ⟨0, Nat.zero_le _, rfl, by simp [wq]⟩
                      case round =>
                        obtain ⟨i, hi, rfl, rfl⟩ := hrel
                        by_cases hlt : i < L.length
                        · obtain ⟨b, off, kv', rfl, c0, c1, c2, -⟩ := hL i hlt
                          rw [← hB8.cell (World.block_lt_of_cell? w _ c0)] at c0
                          rw [← hB8.cell (World.block_lt_of_cell? w _ c1)] at c1
                          rw [← hB8.cell (World.block_lt_of_cell? w _ c2)] at c2
                          have HQ := hidd (wq_succ (j := j) (tj := tj) hlt)
                          have q5 : (0 : Int) ≤ (i : Int) := by omega
                          have q6 : (i : Int) < (L.length : Int) := by omega
                          generalize L[i] = x at *
                          generalize wq L j tj i = wi at *
                          cases hkb : x.kind.toList == [98, 97, 114, 114, 105, 101, 114]
                          · have hkb2 : (x.kind.toList != [98, 97, 114, 114, 105, 101, 114]) = true := by simp [bne, hkb]
                            by_cases hkk : x.k = (j : Int)
                            · have hkk2 : (x.k == (j : Int)) = true := by simp [hkk]
                              cases hss : x.s.toList == tj.toList
                              · have H1 : Hid (wq L j tj (i + 1) = wi) := hidd (by rw [HQ.out, hss]; simp)
                                go_wp2_with fail
                                go_round
                                case rel => exact ⟨i + 1, hlt, by go_num, by rw [H1.out]⟩
                                case measure => simp [intOf]; omega
                              · have H1 : Hid (wq L j tj (i + 1) = true) := hidd (by rw [HQ.out, hss, hkk2, hkb]; simp)
                                go_wp2_with fail
                                go_round
                                case rel => exact ⟨i + 1, hlt, by go_num, by rw [H1.out]⟩
                                case measure => simp [intOf]; omega
                            · have hkk2 : (x.k == (j : Int)) = false := by simp [hkk]
                              have H1 : Hid (wq L j tj (i + 1) = wi) := hidd (by rw [HQ.out, hkk2]; simp)
                              go_wp2_with fail
                              go_round
                              case rel => exact ⟨i + 1, hlt, by go_num, by rw [H1.out]⟩
                              case measure => simp [intOf]; omega
                          · have hkb2 : (x.kind.toList != [98, 97, 114, 114, 105, 101, 114]) = false := by simp [bne, hkb]
                            have H1 : Hid (wq L j tj (i + 1) = wi) := hidd (by rw [HQ.out, hkb]; simp)
                            go_wp2_with fail
                            go_round
                            case rel => exact ⟨i + 1, hlt, by go_num, by rw [H1.out]⟩
                            case measure => simp [intOf]; omega
                        · obtain rfl : L.length = i := by omega
                          rw [wq_true HOK.out]
                          go_wp2_with fail
                          go_roundw
                          case rel => exact ⟨j + 1, hjn, by go_num, hst8⟩
                          case measure => simp [intOf]; omega
                    · obtain rfl : n = j := by omega
                      have hB := hst7.below
                      clear hst7
                      go_wp2_with fail
                      go_ret
                      exact ⟨rfl, hB⟩
end Go.Proofs.YtgckmlafpmnekaaDoor
