/- The walk of stillroomlaw2.SpaceKeeps. Condition: the argument's cells are there, the sentinel errors read as listed. -/
import Derived.Test.YtgckmlafpmnekaaDoorRoomy
import Derived.Test.YtgckmlafpmnekaaDoorSkQ
namespace Go.Proofs.YtgckmlafpmnekaaDoor
open Go.RowKit

/-- A slice of slices of numbers of the call's own: the lists ls. -/
def Owned (B : Nat) (w : World) (v : Value) (ls : List (List Nat)) : Prop :=
  ∃ vs : List Value, vs.length = ls.length ∧ Ow (fun g => B ≤ g) w 22 1 v ls.length vs ∧ ∀ i (h : i < vs.length), Ow (fun g => B ≤ g) w 3 1 vs[i] (ls.getD i []).length (ints (ls.getD i []))

theorem apart_types {F F' : Nat → Prop} {w : World} {e e' : TypeId} {size size' n n' : Nat} {v v' : Value} {xs xs' : List Value} (h : Ow F w e size v n xs) (h' : Ow F' w e' size' v' n' xs') (hne : e ≠ e') :
    ∀ k, v.ownBlock = some k → v'.ownBlock ≠ some k := by
  intro k hk hk'
  rcases h.2 with ⟨rfl, _⟩ | ⟨g, off, cap, cur, rfl, _, hg, _⟩
  · simp [Value.ownBlock] at hk
  · rcases h'.2 with ⟨rfl, _⟩ | ⟨g', off', cap', cur', rfl, _, hg', _⟩
    · simp [Value.ownBlock] at hk'
    · simp only [Value.ownBlock, Option.some.injEq] at hk hk'
      subst hk; subst hk'
      rw [hg] at hg'
      simp only [Option.some.injEq, Obj.cells.injEq] at hg'
      exact hne hg'.2.1
theorem Owned.fr {B : Nat} {w w' : World} {v : Value} {ls : List (List Nat)} {S : Nat → Prop} (h : Owned B w v ls) (hf : Fr S w w') (hS : ∀ k c T, w.heap[k]? = some (.cells c T (0, 0)) → (T = 22 ∨ T = 3) → ¬ S k) : Owned B w' v ls := by
  obtain ⟨vs, hl, ho, hi⟩ := h
  have blk : ∀ {F e size v n xs}, Ow F w e size v n xs → (e = 22 ∨ e = 3) → Ow F w' e size v n xs := fun {F e size v n xs} h he => by
    refine h.fr hf fun k hk => ?_
    rcases h.2 with ⟨rfl, _⟩ | ⟨g, off, cap, cur, rfl, _, hg, _⟩
    · simp [Value.ownBlock] at hk
    · simp only [Value.ownBlock, Option.some.injEq] at hk; subst hk
      exact hS g cur e hg he
  exact ⟨vs, hl, blk ho (.inl rfl), fun i h => blk (hi i h) (.inr rfl)⟩
theorem Owned.ob {B : Nat} {w w' : World} {v : Value} {ls : List (List Nat)} (h : Owned B w v ls) (hf : Below w.heap.size w w') : Owned B w' v ls := h.fr (S := fun _ => False) (Fr.ob hf) (fun _ _ _ _ _ x => x)
theorem Owned.sp {B : Nat} {w w' : World} {v : Value} {ls : List (List Nat)} {p r : Nat} {us : List Bool} (h : Owned B w v ls) (hs : SpAt w p r us) (hf : Fr (fun b => b = r) w w') : Owned B w' v ls :=
  h.fr hf fun k c T hk hT e => by
    subst e
    have := hs.row
    unfold Blk at this
    rw [hk] at this
    simp only [Option.some.injEq, Obj.cells.injEq] at this
    rcases hT with h | h <;> (rw [h] at this; exact absurd this.2.1 (by decide))

theorem Owned.setB {B : Nat} {w : World} {v : Value} {ls : List (List Nat)} {sb : Nat} {cs : List Value} (h : Owned B w v ls) (hb : Blk w sb cs 4) (i : Nat) (u : Value) : Owned B (w.setCell ⟨sb, i, none⟩ u) v ls :=
  h.fr (S := fun k => k = sb) ((Fr.refl (fun k => k = sb) w).setCell (p := ⟨sb, i, none⟩) (.inl rfl) u) fun k c T hk hT e => by
    subst e
    unfold Blk at hb
    rw [hk] at hb
    simp only [Option.some.injEq, Obj.cells.injEq] at hb
    rcases hT with h | h <;> (rw [h] at hb; exact absurd hb.2.1 (by decide))
/-- The cells of an owned list of lists. -/
theorem Owned.at_ {B : Nat} {w : World} {ad : Option Addr} {cap n : Nat} {ls : List (List Nat)} (h : Owned B w (.slice ad n cap) ls) {q : Nat} (hq : q < ls.length) :
    ∃ g off a c, ad = some ⟨g, off, none⟩ ∧ w.cell? ⟨g, off + q, none⟩ = some (.slice a (ls[q]).length c) ∧ ∀ j (hj : j < (ls[q]).length), ∃ g' off', a = some ⟨g', off', none⟩ ∧ w.cell? ⟨g', off' + j, none⟩ = some (.int .i64 (((ls[q])[j] : Nat) : Int)) := by
  obtain ⟨vs, hvl, hov, hin⟩ := h
  have hn : n = ls.length := by
    rcases hov.2 with ⟨he, hn⟩ | ⟨g, off, c, cur, he, _⟩
    · simp only [Value.slice.injEq] at he; omega
    · simp only [Value.slice.injEq] at he; omega
  subst hn
  have hvq : q < vs.length := by omega
  have hi := hin q hvq
  have eq : ls.getD q [] = ls[q] := by rw [List.getD_eq_getElem?_getD, List.getElem?_eq_getElem hq]; rfl
  rw [eq] at hi
  obtain ⟨a, c, hsh⟩ := hi.shape
  rcases hov.cells with hx | ⟨g, off, rfl, -, -, hc⟩
  · subst hx; simp at hvq
  · refine ⟨g, off, a, c, rfl, by rw [hc q hvq, hsh], fun j hj => ?_⟩
    rw [hsh] at hi
    rcases hi.cells with hx | ⟨g', off', rfl, -, -, hc'⟩
    · simp [ints] at hx; rw [hx] at hj; simp at hj
    · exact ⟨g', off', rfl, by rw [hc' j (by simpa [ints] using hj)]; simp [ints]⟩
theorem Fr.of_grown {w w' : World} {row : Option Nat} (h : w.grownBy w' row) : Fr (fun k => row = some k) w w' :=
  ⟨h.os, h.tape, h.output, h.size, fun k hk hn => h.block k hk (fun e => hn e.symm)⟩
theorem Owned.snoc {B : Nat} {w w' : World} {v v' : Value} {ls : List (List Nat)} {vs : List Value} (hvl : vs.length = ls.length) (hov : Ow (fun g => B ≤ g) w 22 1 v ls.length vs)
    (hin : ∀ i (h : i < vs.length), Ow (fun g => B ≤ g) w 3 1 vs[i] (ls.getD i []).length (ints (ls.getD i []))) {x : Value} {t : List Nat} (hx : Ow (fun g => B ≤ g) w 3 1 x t.length (ints t)) {o : Obj}
    (hgrow : (w.alloc o).grownBy w' v.ownBlock) (hown' : Ow (fun g => B ≤ g) w' 22 1 v' (ls.length + 1) (vs ++ [x])) : Owned B w' v' (ls ++ [t]) := by
  have keep : ∀ {y : Value} {l : List Nat}, Ow (fun g => B ≤ g) w 3 1 y l.length (ints l) → Ow (fun g => B ≤ g) w' 3 1 y l.length (ints l) := fun {y l} h =>
    (h.alloc o).fr (Fr.of_grown hgrow) (fun k hk e => apart_types h hov (by decide) k hk e)
  refine ⟨vs ++ [x], by simp [hvl], by simpa using hown', fun i h => ?_⟩
  by_cases hi : i < vs.length
  · have e1 : (vs ++ [x])[i] = vs[i] := List.getElem_append_left hi
    have e2 : (ls ++ [t]).getD i [] = ls.getD i [] := by
      simp only [List.getD_eq_getElem?_getD]; rw [List.getElem?_append_left (by omega)]
    rw [e1, e2]; exact keep (hin i hi)
  · have hi' : i = vs.length := by simp at h; omega
    subst hi'
    have e1 : (vs ++ [x])[vs.length] = x := by simp
    have e2 : (ls ++ [t]).getD vs.length [] = t := by
      simp only [List.getD_eq_getElem?_getD]; rw [List.getElem?_append_right (by omega), hvl]; simp
    rw [e1, e2]; exact keep hx

theorem infoS : (Tryd.prog.info? 22).map (fun i => (i.zero, i.size, i.bytes)) = some (some (.slice none 0 0), 1, 24) := by kernel_rfl

set_option maxRecDepth 100000 in
set_option maxHeartbeats 4000000 in
theorem sk_walk (E : Nat → Addr) (B : Nat) (n : Nat) (v : Value) (l : List Int) (w : World) (henv : Env codeGs B w E) (hh : Hnd w) (hv : Sl w v (icells l) l.length 1) (h1 : 1 ≤ n) (h2 : n ≤ 60) (h3 : l.length ≤ 60) :
    Calls Tryd.prog 5 #[.int .i64 (n : Int), v] w fun e w' => e = .returned (.bool true) ∧ Below w.heap.size w w' := by
  obtain ⟨a, cap, rfl, -⟩ := id hv
  have d1 : decide ((n : Int) < 1) = false := by simp; omega
  have d2 : decide ((60 : Int) < (n : Int)) = false := by simp; omega
  have d3 : decide ((60 : Int) < (l.length : Int)) = false := by simp; omega
  have d1' : decide (n < 1) = false := by simp; omega
  have d2' : decide (60 < n) = false := by simp; omega
  have d3' : decide (60 < l.length) = false := by simp; omega
  go_enter Tryd.func5, Tryd.ntmps5
  go_wp2_with fail
  refine (roomy_true w).mono ?_
  rintro e w1 ⟨rfl, hb1⟩
  go_wp2_with fail
  refine (spnew_ok n w1 h1 (by omega)).mono ?_
  rintro e w2 ⟨p, r, rfl, hsp, hp, hr, hb2⟩
  have hB2 := hb1.trans (hb2.mono hb1.size)
  have hbp : w.heap.size ≤ p := Nat.le_trans hb1.size hp
  have hbr : w.heap.size ≤ r := Nat.le_trans hb1.size hr
  clear hb1 hb2 hp hr
  go_wp2_with fail
  go_loopw [8, 9] (fun o i wr => ∃ (k : Nat) (us : List Bool) (ls : List (List Nat)), k ≤ l.length ∧ i = .int .i64 k ∧ ls.length ≤ k ∧ SpAt wr p r us ∧ Keeps n us ls ∧ Owned w.heap.size wr o ls ∧ Below w.heap.size w wr) (fun _ i _ => l.length - (intOf i).toNat)
  case atStart => exact ⟨0, _, [], by omega, rfl, by simp, hsp, Keeps.start n, ⟨[], rfl, Ow.nil _ _ _ _, fun i h => by simp at h⟩, hB2⟩
  case round =>
    obtain ⟨k, us, ls, hk, rfl, hlk, hsp, hK, hO, hB⟩ := hrel
    by_cases hlt : k < l.length
    · have hv' := hv.ob hB (Nat.le_refl _)
      obtain ⟨b, off, rfl, hbl, hc, hcell⟩ := hv'.at1 hlt
      have hbw : b < w.heap.size := by
        obtain ⟨b', off', he, hb', _⟩ := hv.at1 hlt
        simp only [Option.some.injEq, Addr.mk.injEq] at he; rw [he.1]; exact hb'
      rw [show (icells l)[k] = .int .i64 l[k] by simp [icells]] at hcell
      clear hv'
      have q1 : (0 : Int) ≤ (k : Int) := by omega
      have q2 : (k : Int) < (l.length : Int) := by omega
      by_cases hx : 0 ≤ l[k]
      · by_cases hle : l[k] ≤ ((nfree us : Nat) : Int)
        · -- taken
          obtain ⟨m, hm⟩ := Int.eq_ofNat_of_zero_le hx
          have hnf : nfree us ≤ 60 := by have := hK.len; unfold nfree; omega
          rw [hm] at hcell hle
          have hm1 : m ≤ nfree us := by omega
          clear hm hx hle
          go_wp2_with fail
          refine (free_any p r us wr hsp).mono ?_
          rintro e w3 ⟨rfl, hb3⟩
          have hc3 : w3.cell? ⟨b, off + k, none⟩ = some (.int .i64 (m : Int)) := by rw [hb3.cell (by have := hB.size; simp; omega)]; exact hcell
          have hO3 := hO.ob hb3
          have hB3 := hB.trans (hb3.mono hB.size)
          have hsp3 := hsp.ob hb3 (Nat.le_refl _)
          clear hcell hb3 hsp hO
          go_wp2_with fail
          refine (take_ok p r us m w3 hsp3 hm1).mono ?_
          rintro e w4 ⟨a4, cap4, rfl, ho4, hsp4, hf4⟩
          have hc4 : w4.cell? ⟨b, off + k, none⟩ = some (.int .i64 (m : Int)) := hf4.cell hc3 (by simp; omega)
          have hO4 := hO3.sp hsp3 hf4
          have hB4 : Below w.heap.size w w4 := hB3.trans (hf4.below hB3.size (fun i h => by subst h; exact hbr))
          have g1 : decide ((m : Int) ≤ ((nfree us : Nat) : Int)) = true := by simp; omega
          have g2 : decide (m ≤ nfree us) = true := by simp; omega
          have hB3z := hB3.size
          clear hc3 hO3 hf4 hsp3 hB3
          go_wp2_with fail
          go_quiet (fail)
          go_wp2_with fail
          generalize hW5 : World.drewN w4 _ = w5
          have hc5 : w5.cell? ⟨b, off + k, none⟩ = some (.int .i64 (m : Int)) := by rw [← hW5]; exact hc4
          have hsp5 : SpAt w5 p r (tk us m us.length).2 := by rw [← hW5]; exact ⟨hsp4.head, hsp4.row, hsp4.ne, hsp4.pos, hsp4.big⟩
          have ho5 : w5.ownsRow w3.heap.size 3 1 (.slice a4 m cap4) m (ints (tk us m us.length).1) := by rw [← hW5]; exact ho4
          have hO5 : Owned w.heap.size w5 u8 ls := by rw [← hW5]; exact hO4
          have hB5 : Below w.heap.size w w5 := by rw [← hW5]; exact hB4.trans (Below.drewN _ _ _)
          have hz3 := hB3z
          clear hW5 hc4 hsp4 ho4 hO4 hB4
          have hwr : IntKind.i64.wrap (((nfree us : Nat) : Int) - (m : Int)) = ((nfree (tk us m us.length).2 : Nat) : Int) := by
            rw [nfree_tk us m hm1, i64_in _ (by omega)]; omega
          have hbw' : b < w5.heap.size := by have := hB5.size; omega
          go_region_held3 (fun w' => w'.cell? ⟨b, off + k, none⟩ = some (.int .i64 (m : Int)) ∧ Below w.heap.size w w')
            (first | exact ⟨hc5, hB5.drew⟩ | exact ⟨by rw [hb6.cell (by simpa using hbw')]; exact hc5, hB5.drew.trans (hb6.mono (by have := hB5.size; simpa using this))⟩)
            (first | (go_at_call 27; refine (free_any p r _ _ hsp5.drew).mono ?_; rintro e w6 ⟨rfl, hb6⟩))
          have hB6 : Below w.heap.size w w6 := hB5.drew.trans (hb6.mono (by have := hB5.size; simpa using this))
          have hsp6 := hsp5.drew.ob hb6 (Nat.le_refl _)
          have hO6 : Owned w.heap.size w6 u8 ls := Owned.ob (w := w5.drew) (by exact hO5) hb6
          have ho6 : Ow (fun g => w.heap.size ≤ g) w6 3 1 (.slice a4 m cap4) m (ints (tk us m us.length).1) := Ow.ob (w := w5.drew) (Ow.of_owns (w := w5) ho5 (fun g hg => by omega)) hb6
          have hK6 := hK.take m
          have htl : (tk us m us.length).1.length = m := by rw [tk_len, ← nfree_eq]; omega
          clear hc5 hsp5 ho5 hO5 hB5 hb6 hK hbw' g1 g2 hwr
          generalize (tk us m us.length).1 = t at *
          generalize (tk us m us.length).2 = us' at *
          obtain ⟨vs, hvl, hov, hin⟩ := hO6
          obtain ⟨iS, hiS, hzS0, hzS1, hzS2⟩ := info_parts infoS
          have hsz6 := hB6.size
          go_wp2_with (at_builtin; refine wpList_append_ow _ rfl _ _ 54 54 rfl (fun g => w.heap.size ≤ g) ?cF 22 iS (.slice none 0 0) 1 24 Tryd.underlying54 hiS hzS0 hzS1 hzS2 rfl (by decide) _ _ _ rfl (hov.alloc _) _ _ _ rfl (Src.new Tryd.underlying54 w6 w6.heap.size rfl [.slice a4 m cap4] 22 rfl (by simp [Value.oneCell']) 1) ?c3 ?c4 ?_)
          case cF => intro g hg; simp at hg; omega
          case c3 => unfold maxLen; omega
          case c4 => omega
          intro v' w8 hown' hgrow
          have hO8 : Owned w.heap.size w8 v' (ls ++ [t]) := by
            rw [← htl] at ho6
            exact Owned.snoc hvl hov hin (by rw [htl] at ho6 ⊢; exact ho6) hgrow hown'
          have hnb : ∀ b', b' = p ∨ b' = r → some b' ≠ u8.ownBlock := by
            intro b' hb' e
            rcases hov.2 with ⟨rfl, _⟩ | ⟨g, off', cap', cur, rfl, _, hg, _⟩
            · simp [Value.ownBlock] at e
            · simp only [Value.ownBlock, Option.some.injEq] at e
              have h1 := hsp6.head
              have h2 := hsp6.row
              unfold Blk at h1 h2
              rcases hb' with rfl | rfl
              · rw [e, hg] at h1; simp only [Option.some.injEq, Obj.cells.injEq] at h1; exact absurd h1.2.1 (by decide)
              · rw [e, hg] at h2; simp only [Option.some.injEq, Obj.cells.injEq] at h2; exact absurd h2.2.1 (by decide)
          have hsp8 : SpAt w8 p r us' := by
            have hs := hsp6.alloc (.cells [.slice a4 m cap4].toArray 22)
            exact ⟨hs.head.grown hgrow (hnb p (.inl rfl)), hs.row.grown hgrow (hnb r (.inr rfl)), hs.ne, hs.pos, hs.big⟩
          have hB8 : Below w.heap.size w w8 := (hB6.alloc hB6.size _).grown hgrow (by simp; omega) (fun k hk => (hov.blk k hk).1)
          clear hsp6 hov hin hvl ho6 hown' hgrow hB6 hnb
          go_wp2_with fail
          go_roundw
          case rel => exact ⟨k + 1, us', ls ++ [t], by omega, by go_num, by simp; omega, hsp8, hK6, hO8, hB8⟩
          case measure => simp [intOf]; omega
        · -- not so many are free
          obtain ⟨m, hm⟩ := Int.eq_ofNat_of_zero_le hx
          have hnf : nfree us ≤ 60 := by have := hK.len; unfold nfree; omega
          rw [hm] at hcell hle
          have hle' : ((nfree us : Nat) : Int) < (m : Int) := by omega
          clear hm hx hle
          go_wp2_with fail
          refine (free_any p r us wr hsp).mono ?_
          rintro e w3 ⟨rfl, hb3⟩
          have hc3 : w3.cell? ⟨b, off + k, none⟩ = some (.int .i64 (m : Int)) := by rw [hb3.cell (by have := hB.size; simp; omega)]; exact hcell
          have hO3 := hO.ob hb3
          have hB3 := hB.trans (hb3.mono hB.size)
          have hsp3 := hsp.ob hb3 (Nat.le_refl _)
          have henv3 := henv.below hB3 henv.size
          clear hcell hb3 hsp hO
          go_wp2_with fail
          refine (take_full E p r us (m : Int) w3 hsp3 (by omega) hle' B codeGs henv3 (by decide)).mono ?_
          rintro e w4 ⟨rfl, hb4⟩
          have hc4 : w4.cell? ⟨b, off + k, none⟩ = some (.int .i64 (m : Int)) := by rw [hb4.cell (by have := hB3.size; simp; omega)]; exact hc3
          have hO4 := hO3.ob hb4
          have hsp4 := hsp3.ob hb4 (Nat.le_refl _)
          have hB4 := hB3.trans (hb4.mono hB3.size)
          have g1 : decide ((m : Int) ≤ ((nfree us : Nat) : Int)) = false := by simp; omega
          have g2 : decide (m ≤ nfree us) = false := by simp; omega
          unfold erv
          clear hc3 hO3 hsp3 hB3 henv3 hb4 hle'
          go_wp2_with fail
          go_quiet (fail)
          go_wp2_with fail
          generalize hW5 : World.drewN w4 _ = w5
          have hsp5 : SpAt w5 p r us := by rw [← hW5]; exact ⟨hsp4.head, hsp4.row, hsp4.ne, hsp4.pos, hsp4.big⟩
          have hO5 : Owned w.heap.size w5 u8 ls := by rw [← hW5]; exact hO4
          have hB5 : Below w.heap.size w w5 := by rw [← hW5]; exact hB4.trans (Below.drewN _ _ _)
          go_roundw
          case rel => exact ⟨k + 1, us, ls, by omega, by go_num, by omega, hsp5, hK, hO5, hB5⟩
          case measure => simp [intOf]; omega
      · generalize hy : l[k] = y at *
        have hx' : y < 0 := by omega
        clear hx hy
        cases ls with
        | nil =>
          have hO' := hO
          obtain ⟨vs, hvl, hov, hin⟩ := hO
          obtain ⟨ad, cap', rfl⟩ := hov.shape
          clear hov hin hvl
          go_wp2_with fail
          go_roundw
          case rel => exact ⟨k + 1, us, [], by omega, by go_num, by simp, hsp, hK, hO', hB⟩
          case measure => simp [intOf]; omega
        | cons l0 rest =>
          obtain ⟨vs, hvl, hov, hin⟩ := hO
          obtain ⟨ad, cap', rfl⟩ := hov.shape
          cases vs with
          | nil => simp at hvl
          | cons v0 vs =>
          have hov0 := hov
          rcases hov.cells with hx | ⟨g, off', rfl, hgB, hglt, hcs⟩
          · cases hx
          have hc0 := hcs 0 (by simp)
          simp only [Nat.add_zero, List.getElem_cons_zero] at hc0
          have hi0 := hin 0 (by simp)
          simp only [List.getElem_cons_zero, List.getD_cons_zero] at hi0
          obtain ⟨a0, cap0, rfl⟩ := hi0.shape
          have hlen0 : (l0.length : Int) = ((l0.map Int.ofNat).length : Int) := by simp
          have hus : us.length = n := hK.len
          have hl60 : l0.length ≤ 60 := by
            have h1 := nodup_len l0 (List.range n) (by have := hK.nodup; rw [List.flatten_cons, List.nodup_append] at this; exact this.1) (fun j hj => List.mem_range.2 (hK.lt (by simp [hj])))
            rw [List.length_range] at h1; omega
          have hr0 : (0 : Int) < ((rest.length + 1 : Nat) : Int) := by omega
          have hs0 : Sl wr (.slice a0 l0.length cap0) (icells (l0.map Int.ofNat)) (l0.map Int.ofNat).length 1 := by
            have := hi0.sl; rw [ints_eq] at this; simpa using this
          simp only [List.length_cons] at hov hov0
          clear hv hcs
          go_wp2_with fail
          refine (ownInts_any _ (l0.map Int.ofNat) wr hs0 (by simp; omega)).mono ?_
          rintro e w3 ⟨a3, cap3, rfl, ho3, hb3⟩
          have hsp3 := hsp.ob hb3 (Nat.le_refl _)
          have hc3 : w3.cell? ⟨g, off', none⟩ = some (.slice a0 l0.length cap0) := by rw [hb3.cell (by simpa using hglt)]; exact hc0
          have hB3 := hB.trans (hb3.mono hB.size)
          have hov3 := hov0.ob hb3
          have hin3 : ∀ i (h : i < (Value.slice a0 l0.length cap0 :: vs).length), Ow (fun g => w.heap.size ≤ g) w3 3 1 (Value.slice a0 l0.length cap0 :: vs)[i] ((l0 :: rest).getD i []).length (ints ((l0 :: rest).getD i [])) := fun i h => (hin i h).ob hb3
          have hnr : Value.ownBlock (.slice a3 (l0.map Int.ofNat).length cap3) ≠ some r := fun e => by
            have := (ho3.blk r e).1; have := hsp.row.lt; omega
          go_wp2_with fail
          simp only [List.length_map] at ho3 hnr
          have hs3 : Sl w3 (.slice a3 l0.length cap3) (icells (l0.map Int.ofNat)) (l0.map Int.ofNat).length 1 := by simpa using ho3.sl
          refine (give_ok p r us _ (l0.map Int.ofNat) w3 hsp3 hs3 hnr (keeps_bad hK) (keeps_gOk hK)).mono ?_
          rintro e w4 ⟨rfl, hsp4, hf4⟩
          rw [toNat_ofNat_map] at hsp4
          have hne : ∀ k c T, w3.heap[k]? = some (.cells c T (0, 0)) → (T = 22 ∨ T = 3) → ¬ k = r := fun k c T hk hT e => by
            subst e
            have := hsp3.row
            unfold Blk at this
            rw [hk] at this
            simp only [Option.some.injEq, Obj.cells.injEq] at this
            rcases hT with h | h <;> (rw [h] at this; exact absurd this.2.1 (by decide))
          have hO4 : Owned w.heap.size w4 (.slice (some ⟨g, off', none⟩) (rest.length + 1) cap') (l0 :: rest) := Owned.fr ⟨_, hvl, by simpa using hov3, hin3⟩ hf4 (fun k c T hk hT => hne k c T hk hT)
          have hgr : g ≠ r := fun e => by
            subst e
            rcases hov3.2 with ⟨he, _⟩ | ⟨g', o', c', cur, he, _, hg, _⟩
            · cases he
            · simp only [Value.slice.injEq, Option.some.injEq, Addr.mk.injEq] at he
              rw [← he.1.1] at hg
              exact hne g cur _ hg (.inl rfl) rfl
          have hc4 := hf4.cell hc3 (by simpa using hgr)
          have hB4 : Below w.heap.size w w4 := hB3.trans (hf4.below hB3.size (fun i h => by subst h; exact hbr))
          have hK4 := hK.give
          have hcap : (1 : Int) ≤ (cap' : Int) := by
            have := hov3.sl.cap; omega
          clear hin hov hov0 hs0 hi0 hc0 hsp hB hb3 ho3 hs3 hsp3 hc3 hB3 hov3 hin3 hnr hf4 hne hlen0
          have hslice : ∀ w', Owned w.heap.size w' (.slice (some ⟨g, off', none⟩) (rest.length + 1) cap') (l0 :: rest) → Owned w.heap.size w' (.slice (if cap' = 1 then some ⟨g, off', none⟩ else some ⟨g, off' + 1, none⟩) rest.length (cap' - 1)) rest := fun w' h => by
            obtain ⟨vs', hvl', hov', hin'⟩ := h
            by_cases hc1 : cap' = 1
            · subst hc1
              have hr1 : rest = [] := by
                have := hov'.sl.cap
                simp only [List.length_cons] at this
                exact List.eq_nil_of_length_eq_zero (by omega)
              subst hr1
              rw [if_pos rfl]
              refine ⟨[], rfl, ⟨by simp, .inr ?_⟩, fun i hi => by simp at hi⟩
              rcases hov'.2 with ⟨he, _⟩ | ⟨g', o', c', cur, he, hgB', hg', _, _, hsz', _⟩
              · cases he
              · simp only [Value.slice.injEq, Option.some.injEq, Addr.mk.injEq] at he
                obtain ⟨⟨rfl, rfl, _⟩, _, rfl⟩ := he
                exact ⟨g, off', 0, cur, rfl, hgB', hg', by simp, by omega, by omega, by simp⟩
            rw [if_neg hc1]
            cases vs' with
            | nil => simp at hvl'
            | cons v0 vs' =>
              refine ⟨vs', by simpa using hvl', by simpa using hov'.drop (k := 1) (by simp), fun i hi => ?_⟩
              have := hin' (i + 1) (by simpa using hi)
              simpa using this
          rcases l0 with _ | ⟨x, l0⟩
          · -- nothing in it
            have hf : ¬ (0 : Int) < ((0 : Nat) : Int) := by omega
            go_wp2_with fail
            go_roundw
            case rel => exact ⟨k + 1, giv us [], rest, by omega, by go_num, by simp at hlk; omega, hsp4, hK4, hslice _ hO4, hB4⟩
            case measure => simp [intOf]; omega
          · have hagain := keeps_again hK
            obtain ⟨vs4, hvl4, hov4, hin4⟩ := id hO4
            cases vs4 with
            | nil => simp at hvl4
            | cons v0' vs4 =>
            have hi4 := hin4 0 (by simp)
            simp only [List.getElem_cons_zero, List.getD_cons_zero] at hi4
            rcases hov4.cells with hx4 | ⟨g4, off4, he4, -, hg4lt, hcs4⟩
            · cases hx4
            have hc40 := hcs4 0 (by simp)
            simp only [Option.some.injEq, Addr.mk.injEq, and_true] at he4
            obtain ⟨rfl, rfl⟩ := he4
            simp only [Nat.add_zero, List.getElem_cons_zero] at hc40
            obtain rfl : v0' = .slice a0 (x :: l0).length cap0 := Option.some.inj (hc40.symm.trans hc4)
            have hs4 : Sl w4 (.slice a0 (x :: l0).length cap0) (icells ((x :: l0).map Int.ofNat)) ((x :: l0).map Int.ofNat).length 1 := by
              have := hi4.sl; rw [ints_eq] at this; simpa using this
            have hgt : (0 : Int) < ((l0.length + 1 : Nat) : Int) := by omega
            simp only [List.length_cons] at hl60 hc4 hs4
            clear hov4 hin4 hi4 hcs4 hc40
            go_wp2_with fail
            refine (ownInts_any _ ((x :: l0).map Int.ofNat) w4 hs4 (by simp; omega)).mono ?_
            rintro e w5 ⟨a5, cap5, rfl, ho5, hb5⟩
            have hsp5 := hsp4.ob hb5 (Nat.le_refl _)
            have hB5 := hB4.trans (hb5.mono hB4.size)
            have hO5 := hO4.ob hb5
            have hs5 : Sl w5 (.slice a5 (l0.length + 1) cap5) (icells ((x :: l0).map Int.ofNat)) ((x :: l0).map Int.ofNat).length 1 := by simpa using ho5.sl
            have henv5 := henv.below hB5 henv.size
            simp only [List.length_map, List.length_cons] at ho5
            clear hb5 hs4 hsp4 hO4 hB4 hc4
            go_wp2_with fail
            refine (give_none E p r (giv us (x :: l0)) _ ((x :: l0).map Int.ofNat) w5 hsp5 hs5 (by have := keeps_bad hK; rw [giv_len]; exact this) 0 (by simp) (fun i hi => by omega) (by intro h; have := h.1; simp only [List.map_cons, List.getD_cons_zero] at this; simp only [Int.ofNat_eq_natCast, Int.toNat_natCast] at this; rw [hagain] at this; cases this) B codeGs henv5 (by decide)).mono ?_
            rintro e w6 ⟨rfl, hb6⟩
            have hsp6 := hsp5.ob hb6 (Nat.le_refl _)
            have hB6 := hB5.trans (hb6.mono hB5.size)
            have hO6 := hO5.ob hb6
            have henv6 := henv.below hB6 henv.size
            have hh6 := hh.below hB6 (Nat.le_refl _)
            clear hb6 hs5 hsp5 hO5 hB5 henv5 ho5 hagain
            go_wp2_with fail
            refine (coded2 E B w6 henv6 hh6 _ 6 (.inr ⟨5, by decide, rfl, rfl⟩) 6).mono ?_
            rintro e w7 ⟨rfl, hb7⟩
            have hsp7 := hsp6.ob hb7 (Nat.le_refl _)
            have hB7 := hB6.trans (hb7.mono hB6.size)
            have hO7 := hO6.ob hb7
            clear hb7 hsp6 hO6 hB6 henv6 hh6
            go_wp2_with fail
            go_roundw
            case rel => exact ⟨k + 1, giv us (x :: l0), rest, by omega, by go_num, by simp at hlk; omega, hsp7, hK4, hslice _ hO7, hB7⟩
            case measure => simp [intOf]; omega
    · obtain rfl : k = l.length := by omega
      have hus : us.length = n := hK.len
      have hhd := hsp.hd
      rw [hus] at hhd
      obtain ⟨vs, hvl, hov, hin⟩ := id hO
      obtain ⟨ad, cap', rfl⟩ := hov.shape
      obtain ⟨i0, hi0, hz0, hz1, hz2⟩ := info_parts infoB
      have hmk := run_makeSlice (P := Tryd.prog) wr 58 4 i0 (.bool false) Tryd.underlying58 hi0 hz0 .i64 .i64 (n : Int) (n : Int) (by omega) (Int.le_refl _) (by rw [hz1]; simp; omega) (by rw [hz2]; omega) (by omega)
      rw [Int.toNat_natCast, hz1] at hmk
      have hcs : madeCells (Value.bool false).cells (n * 1) = ((List.replicate n false).map Value.bool).toArray := by
        apply Array.toList_inj.1
        rw [Nat.mul_one, show (Value.bool false).cells = #[Value.bool false] from rfl, toList_madeCells_one]
        simp
      rw [hcs] at hmk
      generalize hL : (List.replicate n false).map Value.bool = L at hmk
      have HL := hidd hL
      clear hL hcs hi0 hz0 hz1 hz2
      have hsr : wr.heap.size ≠ r ∧ wr.heap.size ≠ p := ⟨by have := hsp.row.lt; omega, by have := hsp.head.lt; omega⟩
      have hkk : ¬ (l.length : Int) < (l.length : Int) := by omega
      have hlk' : ls.length ≤ 60 := by omega
      clear hv hlt hk
      go_wp2_with fail
      generalize hW : wr.alloc _ = W1
      have hbk : Blk W1 wr.heap.size ((List.replicate n false).map Value.bool) 4 := by rw [← hW, HL.out]; exact Blk.new wr L 4
      have hsp1 : SpAt W1 p r us := by rw [← hW]; exact hsp.alloc _
      have hO1 : Owned w.heap.size W1 (.slice ad ls.length cap') ls := by rw [← hW]; exact hO.ob ((Below.refl _ _).alloc (Nat.le_refl _) _)
      have hB1 : Below w.heap.size w W1 := by rw [← hW]; exact hB.alloc hB.size _
      have hsb := hB.size
      generalize wr.heap.size = sb at *
      clear hW hmk hsp hO hB hov hin hvl hhd
      go_loopw [14, 15] (fun m i wr => ∃ (q : Nat) (ss : List Bool), q ≤ ls.length ∧ i = .int .i64 q ∧ (∃ ml : Nat, m = .int .i64 (ml : Int) ∧ Hid (ml = (ls.take q).flatten.length)) ∧ ss.length = n ∧ (∀ j, ss.getD j false = true ↔ j ∈ (ls.take q).flatten) ∧ Blk wr sb (ss.map Value.bool) 4 ∧ SpAt wr p r us ∧ Owned w.heap.size wr (.slice ad ls.length cap') ls ∧ Below w.heap.size w wr) (fun _ i _ => ls.length - (intOf i).toNat)
      case atStart => exact ⟨0, _, by omega, rfl, ⟨0, rfl, hidd (by simp)⟩, by simp, (Keeps.start n).used, hbk, hsp1, hO1, hB1⟩
      case round =>
        obtain ⟨q, ss, hq, rfl, ⟨ml, rfl, HM⟩, hsl, hmk, hbk2, hsp2, hO2, hB2⟩ := hrel
        clear hbk hsp1 hO1 hB1
        by_cases hql : q < ls.length
        · have hnl : ∀ m, m ≤ (ls[q]).length → ml + m ≤ n := fun m hm => by rw [HM.out]; exact keeps_part hK hql hm
          obtain ⟨wo, rfl⟩ : ∃ wo : World, wo = wr := ⟨_, rfl⟩
          go_wp2_with fail
          go_loopw [14, 16] (fun m i wr => ∃ (kk : Nat) (ss : List Bool), kk ≤ (ls[q]).length ∧ i = .int .i64 kk ∧ m = .int .i64 ((ml : Int) + (kk : Int)) ∧ ss.length = n ∧ (∀ j, ss.getD j false = true ↔ j ∈ (ls.take q).flatten ++ (ls[q]).take kk) ∧ Blk wr sb (ss.map Value.bool) 4 ∧ SpAt wr p r us ∧ Owned w.heap.size wr (.slice ad ls.length cap') ls ∧ Below w.heap.size w wr) (fun _ i _ => (ls[q]).length - (intOf i).toNat)
          case atStart => exact ⟨0, ss, by omega, rfl, by simp, hsl, by simpa using hmk, hbk2, hsp2, hO2, hB2⟩
          case round =>
            obtain ⟨kk, ss2, hkk2, rfl, rfl, hsl2, hmk2, hbk3, hsp3, hO3, hB3⟩ := hrel
            clear hbk2 hsp2 hO2 hB2 hmk
            obtain ⟨g, off, a1, c1, rfl, hcq, hcj⟩ := hO3.at_ hql
            by_cases hk2 : kk < (ls[q]).length
            · obtain ⟨g', off', rfl, hcx⟩ := hcj kk hk2
              have hmem : (ls[q])[kk] ∈ ls.flatten := List.mem_flatten.2 ⟨ls[q], List.getElem_mem _, List.getElem_mem _⟩
              have hxn := hK.lt hmem
              have hnot : ss2.getD (ls[q])[kk] false = false := by
                cases hb : ss2.getD (ls[q])[kk] false
                · rfl
                · exact absurd ((hmk2 _).1 hb) (keeps_fresh hK hql hk2)
              have hcs := hbk3.cell (i := (ls[q])[kk]) (v := .bool false) (by rw [List.getElem?_map, getD_some (d := false) (by omega), hnot]; rfl)
              have hfz := hbk3.frozen (ls[q])[kk]
              have hbk4 := hbk3.set (ls[q])[kk] (.bool true)
              rw [← List.map_set] at hbk4
              have hmk4 : ∀ j, (ss2.set (ls[q])[kk] true).getD j false = true ↔ j ∈ (ls.take q).flatten ++ (ls[q]).take (kk + 1) := by
                rw [List.take_succ_eq_append_getElem hk2]
                exact mark_next (by omega) hmk2
              have hn4 := hnl (kk + 1) hk2
              have hO4 := hO3.setB hbk3 (ls[q])[kk] (.bool true)
              have hB4 := hB3.setCell (p := ⟨sb, (ls[q])[kk], none⟩) hsb (.bool true)
              have hsp4 : SpAt (wr.setCell ⟨sb, (ls[q])[kk], none⟩ (.bool true)) p r us := ⟨hsp3.head.other (a := ⟨sb, _, none⟩) (fun e => hsr.2 e.symm) _, hsp3.row.other (a := ⟨sb, _, none⟩) (fun e => hsr.1 e.symm) _, hsp3.ne, hsp3.pos, hsp3.big⟩
              have hsl4 : (ss2.set (ls[q])[kk] true).length = n := by rw [List.length_set]; exact hsl2
              have z1 : (0 : Int) ≤ (((ls[q])[kk] : Nat) : Int) := by omega
              have z2 : (((ls[q])[kk] : Nat) : Int) < (n : Int) := by omega
              have z3 : (ml : Int) + (kk : Int) ≤ 60 := by omega
              have z4 : (q : Int) < (ls.length : Int) := by omega
              have z5 : (kk : Int) < ((ls[q]).length : Int) := by omega
              have hk3 : kk + 1 ≤ (ls[q]).length := hk2
              clear hcj hnot hmk2 hbk3 hO3 hB3 hsp3 hmem hnl hsl2 hxn
              generalize (ls[q])[kk] = x at *
              go_wp2_with fail
              go_roundw
              case rel => exact ⟨kk + 1, ss2.set x true, hk3, by go_num, by simp; omega, hsl4, hmk4, hbk4, hsp4, hO4, hB4⟩
              case measure => simp [intOf]; omega
            · obtain rfl : kk = (ls[q]).length := by omega
              rw [List.take_length, ← take_flat ls q hql] at hmk2
              have hn4 := hnl _ (Nat.le_refl _)
              have hfl : ml + (ls[q]).length = (ls.take (q + 1)).flatten.length := by rw [take_flat ls q hql, List.length_append, HM.out]
              have z4 : (q : Int) < (ls.length : Int) := by omega
              have HF := hidd hfl
              clear hcj hnl hfl
              generalize (ls[q]).length = lq at *
              go_wp2_with fail
              go_roundw
              case rel => exact ⟨q + 1, ss2, by omega, by go_num, ⟨ml + lq, by go_num, HF⟩, hsl2, hmk2, hbk3, hsp3, hO3, hB3⟩
              case measure => simp [intOf]; omega
        · obtain rfl : q = ls.length := by omega
          rw [List.take_length] at hmk
          go_wp2_with fail
          refine (used_any p r us wr hsp2).mono ?_
          rintro e w7 ⟨a7, cap7, rfl, ho7, hb7⟩
          have hsp7 := hsp2.ob hb7 (Nat.le_refl _)
          have hbk7 := hbk2.below hb7 hbk2.lt
          have hB7 := hB2.trans (hb7.mono hB2.size)
          have hs7 := Sl.of_owns ho7
          have hml : ml = (usedTo us us.length).length := by rw [hK.many, HM.out, List.take_length]
          have hmn : ml ≤ n := by rw [hml, ← hus]; exact usedTo_le _ _
          have hus7 : ∀ x, x ∈ usedTo us us.length → ss.getD x false = true := fun x hx => by
            rw [hmk, ← hK.used]; exact ((usedTo_mem _ _ _).1 hx).2
          have hu7 : ∀ x, x ∈ usedTo us us.length → x < n := fun x hx => by
            have := ((usedTo_mem _ _ _).1 hx).1; omega
          have hfr : nfree us = n - ml := by rw [← hus, hml]; rfl
          have hwr : IntKind.i64.wrap ((n : Int) - (ml : Int)) = ((nfree us : Nat) : Int) := by rw [i64_in _ (by omega)]; omega
          rw [← hml] at ho7 hs7
          have HML := hidd hml
          rw [← hml]
          clear hsp2 hbk2 hb7 ho7 hB2 hO2 hmk hml HM hql
          generalize hU : usedTo us us.length = U at *
          clear hU
          go_wp2_with fail
          go_loop [19] (fun i => ∃ k : Nat, k ≤ ml ∧ i = .int .i64 k) (fun i => ml - (intOf i).toNat)
          case atStart => exact ⟨0, by omega, rfl⟩
          case round =>
            obtain ⟨k, hk, rfl⟩ := hrel
            by_cases hkm : k < ml
            · obtain ⟨b, off, rfl, hbl, hc, hcell⟩ := hs7.at1 hkm
              have hkU : k < U.length := by rw [← HML.out]; exact hkm
              rw [show (ints U)[k] = .int .i64 ((U[k] : Nat) : Int) by simp [ints]] at hcell
              have hx1 := hus7 U[k] (List.getElem_mem _)
              have hx2 := hu7 U[k] (List.getElem_mem _)
              have hcs := hbk7.cell (i := U[k]) (v := .bool true) (by rw [List.getElem?_map, getD_some (d := false) (by omega), hx1]; rfl)
              have z1 : (0 : Int) ≤ ((U[k] : Nat) : Int) := by omega
              have z2 : ((U[k] : Nat) : Int) < (n : Int) := by omega
              have hkm1 : k + 1 ≤ ml := hkm
              clear hx1 hx2 hc hus7 hu7
              generalize U[k] = x at *
              go_wp2_with fail
              go_round
              case rel => exact ⟨k + 1, hkm1, by go_num⟩
              case measure => simp [intOf]; omega
            · clear hus7 hu7
              go_wp2_with fail
              refine (free_any p r us w7 hsp7).mono ?_
              rintro e w8 ⟨rfl, hb8⟩
              have hB8 := hB7.trans (hb8.mono hB7.size)
              clear hsp7 hs7 hbk7
              go_wp2_with fail
              go_ret
              exact ⟨by simp, hB8⟩
end Go.Proofs.YtgckmlafpmnekaaDoor
