/- The contracts of package disk but New: reading, waiting. Condition: the receiver is a disk that New gave. · The contracts of package disk: writing, a barrier, a crash. Condition: the receiver is a disk that New gave. -/
import Derived.Test.YtoemahhpheobkaaGreatDoorBw
import Derived.Test.YtoemahhpheobkaaGreatDoorApp
import Derived.Test.YtoemahhpheobkaaGreatDoorSpC
import Derived.RegionTactic
import Derived.BigRegion
import Derived.StillTailTactics
namespace Go.Proofs.YtoemahhpheobkaaGreatDoor
open Go.RowKit Go.Shelf
attribute [local go_sem] Oper.semAt_some

/-- A disk: its struct lies in block p, its texts in block r, its writes that wait at v. -/
structure DkAt (w : World) (p r : Nat) (v : Value) (ls : List ByteArray) (ws : List (Nat × ByteArray)) : Prop where
  head : Blk w p [.slice (some ⟨r, 0, none⟩) ls.length ls.length, v] 164
  row : Blk w r (ls.map Value.string) 9
  wait : Ow (fun g => g ≠ p ∧ g ≠ r) w 162 2 v ws.length (wcells ws)
  ne : p ≠ r
  pos : 0 < ls.length
  big : ls.length ≤ 512
  inr : ∀ x ∈ ws, x.1 < ls.length

/-- The blocks that an act on a disk may turn. -/
def dkS (p r : Nat) (v : Value) (b : Nat) : Prop := b = p ∨ b = r ∨ v.ownBlock = some b

section
variable {w w' : World} {p r : Nat} {v : Value} {ls : List ByteArray} {ws : List (Nat × ByteArray)}
theorem DkAt.fr {S : Nat → Prop} (h : DkAt w p r v ls ws) (hf : Fr S w w') (hS : ∀ b, dkS p r v b → ¬ S b) : DkAt w' p r v ls ws :=
  ⟨h.head.fr hf (hS p (.inl rfl)), h.row.fr hf (hS r (.inr (.inl rfl))), h.wait.fr hf (fun k hk => hS k (.inr (.inr hk))), h.ne, h.pos, h.big, h.inr⟩
theorem DkAt.lt (h : DkAt w p r v ls ws) : ∀ b, dkS p r v b → b < w.heap.size := by
  rintro b (rfl | rfl | hb)
  · exact h.head.lt
  · exact h.row.lt
  · exact (h.wait.blk b hb).2
theorem DkAt.ob {B : Nat} (h : DkAt w p r v ls ws) (hf : Below B w w') (hB : w.heap.size ≤ B) : DkAt w' p r v ls ws :=
  h.fr (S := fun b => B ≤ b) (Fr.of_below hf (fun _ _ x => x)) (fun b hb => by have := h.lt b hb; omega)
theorem DkAt.alloc (h : DkAt w p r v ls ws) (o : Obj) : DkAt (w.alloc o) p r v ls ws := h.ob ((Below.refl _ w).alloc (Nat.le_refl _) o) (Nat.le_refl _)
theorem DkAt.hd (h : DkAt w p r v ls ws) : w.cell? ⟨p, 0, none⟩ = some (.slice (some ⟨r, 0, none⟩) ls.length ls.length) := h.head.cell rfl
theorem DkAt.hw (h : DkAt w p r v ls ws) : w.cell? ⟨p, 1, none⟩ = some v := h.head.cell rfl
theorem DkAt.cell (h : DkAt w p r v ls ws) {k : Nat} (hk : k < ls.length) : w.cell? ⟨r, k, none⟩ = some (.string (ls.getD k ByteArray.empty)) :=
  h.row.cell (by simp [List.getD_eq_getElem?_getD, List.getElem?_eq_getElem hk])
end

theorem bad_any (p r n : Nat) (k : Int) (w : World) (hd : w.cell? ⟨p, 0, none⟩ = some (.slice (some ⟨r, 0, none⟩) n n)) :
    Calls Tryz.prog 80 #[.pointer (some ⟨p, 0, none⟩), .int .i64 k] w (IsBool (badK n k) w) := by
  unfold badK
  by_cases h0 : k < 0
  · have h1 : decide (k < 0) = true := by simpa using h0
    rw [h1, Bool.true_or]
    go_enter Tryz.func80, Tryz.ntmps80
    go_wp2
    go_ret
    exact ⟨rfl, rfl⟩
  · have h1 : decide (k < 0) = false := by simpa using h0
    rw [h1, Bool.false_or]
    by_cases h2 : (n : Int) ≤ k
    · have h3 : decide ((n : Int) ≤ k) = true := by simpa using h2
      rw [h3]
      go_enter Tryz.func80, Tryz.ntmps80
      go_wp2
      go_ret
      exact ⟨rfl, rfl⟩
    · have h3 : decide ((n : Int) ≤ k) = false := by simpa using h2
      rw [h3]
      go_enter Tryz.func80, Tryz.ntmps80
      go_wp2
      go_ret
      exact ⟨rfl, rfl⟩

set_option maxRecDepth 100000 in
theorem read_bad (E : Nat → Addr) (p r : Nat) (v : Value) (ls : List ByteArray) (ws : List (Nat × ByteArray)) (k : Int) (w : World) (h : DkAt w p r v ls ws) (hk : badK ls.length k = true)
    (B : Nat) (G : List Nat) (hE : Env G B w E) (hg : 4 ∈ G) :
    Calls Tryz.prog 51 #[.pointer (some ⟨p, 0, none⟩), .int .i64 k] w fun e w' => e = .returned (.tuple #[.string ByteArray.empty, erv E 4]) ∧ Below w.heap.size w w' := by
  have hb1 : Below w.heap.size w (((w.alloc (.cells #[.int .i64 k] 3)).alloc (.cells #[.string ⟨#[]⟩] 9)).alloc (.cells #[.nilIface] 36)) := (((Below.refl _ w).alloc (Nat.le_refl _) _).alloc (by simp) _).alloc (by simp; omega) _
  have hd := (h.ob hb1 (Nat.le_refl _)).hd
  have hc := (hE.ob hb1).cell _ hg
  unfold erv at *
  clear h hE
  go_enter Tryz.func51, Tryz.ntmps51
  go_wp2_with fail
  refine (bad_any p r _ k _ hd).mono ?_
  rintro e w' ⟨rfl, rfl⟩
  rw [hk]
  go_wp2_with fail
  go_region
  all_goals (
    go_wp2
    refine bodyPost_ret (v := .tuple #[.string ByteArray.empty, .iface 249 (.pointer (some (E 4)))]) ?_ rfl ⟨rfl, ((((Below.refl _ w).alloc (Nat.le_refl _) _).alloc (by simp) _).alloc (by simp; omega) _).drew⟩
    simp [results, Tryz.f51, go_sem]
    try rfl)

theorem rdW_none {ws : List (Nat × ByteArray)} {k : Nat} {d : ByteArray} : ∀ j, j ≤ ws.length → (∀ x ∈ bwTo ws j, x.2.1 ≠ k) → rdW ws k d = rdW (ws.take (ws.length - j)) k d
  | 0, _, _ => by simp
  | j + 1, hj, h => by
    have h1 : rdW ws k d = rdW (ws.take (ws.length - j)) k d := rdW_none (d := d) j (by omega) (fun x hx => h x (by rw [bwTo_succ]; exact List.mem_append_left _ hx))
    have h2 := h _ (by rw [bwTo_succ]; exact List.mem_append_right _ (List.mem_singleton.2 rfl))
    have hi : ws.length - 1 - j < ws.length := by omega
    have e : ws.getD (ws.length - 1 - j) (0, ByteArray.empty) = ws[ws.length - 1 - j] := by simp [List.getD_eq_getElem?_getD, List.getElem?_eq_getElem hi]
    rw [h1, show ws.length - j = (ws.length - 1 - j) + 1 by omega, rdW_take_miss hi (by simpa only [e] using h2), show ws.length - (j + 1) = ws.length - 1 - j by omega]
theorem ini_last {ws : List (Nat × ByteArray)} {j : Nat} {ini : List (Nat × (Nat × ByteArray))} {last : Nat × (Nat × ByteArray)} (h : bwTo ws (j + 1) = ini ++ [last]) : bwTo ws j = ini ∧ (ws.length - 1 - j, ws.getD (ws.length - 1 - j) (0, ByteArray.empty)) = last := by
  rw [bwTo_succ] at h
  obtain ⟨h1, h2⟩ := List.append_inj' h rfl
  exact ⟨h1, by simpa using h2⟩
theorem rdW_hit {ws : List (Nat × ByteArray)} {k j : Nat} {d : ByteArray} (hj : j < ws.length) (h : ∀ x ∈ bwTo ws j, x.2.1 ≠ k) (hk : (ws.length - 1 - j, ws.getD (ws.length - 1 - j) (0, ByteArray.empty)).2.1 = k) : rdW ws k d = (ws.length - 1 - j, ws.getD (ws.length - 1 - j) (0, ByteArray.empty)).2.2 := by
  have hi : ws.length - 1 - j < ws.length := by omega
  have e : ws.getD (ws.length - 1 - j) (0, ByteArray.empty) = ws[ws.length - 1 - j] := by simp [List.getD_eq_getElem?_getD, List.getElem?_eq_getElem hi]
  simp only [e] at hk ⊢
  rw [rdW_none j (by omega) h, show ws.length - j = (ws.length - 1 - j) + 1 by omega, rdW_take_hit hi hk]

set_option maxRecDepth 100000 in
set_option maxHeartbeats 4000000 in
theorem read_ok (p r : Nat) (v : Value) (ls : List ByteArray) (ws : List (Nat × ByteArray)) (k : Nat) (w : World) (h : DkAt w p r v ls ws) (hk : k < ls.length) :
    Calls Tryz.prog 51 #[.pointer (some ⟨p, 0, none⟩), .int .i64 (k : Int)] w fun e w' => e = .returned (.tuple #[.string (rdW ws k (ls.getD k ByteArray.empty)), .nilIface]) ∧ Below w.heap.size w w' := by
  have hb1 : Below w.heap.size w (((w.alloc (.cells #[.int .i64 (k : Int)] 3)).alloc (.cells #[.string ⟨#[]⟩] 9)).alloc (.cells #[.nilIface] 36)) := (((Below.refl _ w).alloc (Nat.le_refl _) _).alloc (by simp) _).alloc (by simp; omega) _
  have h1 := h.ob hb1 (Nat.le_refl _)
  have hd := h1.hd
  have hw := h1.hw
  obtain ⟨a, cap, rfl⟩ := h.wait.shape
  have hbk : badK ls.length (k : Int) = false := by unfold badK; simp; omega
  refine (callsIn_wide (n := 3)).1 ?_
  refine callsIn_of_wp_marks Tryz.func51 rfl trivial ?_ rfl
  simp only [Tryz.ntmps51, List.size_toArray, List.length_cons, List.length_nil, Nat.reduceAdd, Nat.reduceSub, Array.replicate_succ, Array.replicate_zero, List.push_toArray, List.append_toArray, List.nil_append, List.cons_append]
  gi_wp2_with fail
  refine ⟨trivial, (callsIn_wide.2 (bad_any p r _ _ _ hd)).mono ?_⟩
  rintro e w' ⟨rfl, rfl⟩
  rw [hbk]
  gi_wp2_with fail
  refine ⟨trivial, (bw_in Fence.wide (3 - 1) trivial rfl _ _ _ _).mono ?_⟩
  rintro e w' ⟨rfl, rfl⟩
  gi_wp2_with fail
  have bK := (((Boxed.new w 3 (.int .i64 (k : Int))).alloc (.cells #[.string ⟨#[]⟩] 9)).alloc (.cells #[.nilIface] 36)).alloc (.cells #[.slice a ws.length cap] 160)
  have bS := ((Boxed.new (w.alloc (.cells #[.int .i64 (k : Int)] 3)) 9 (.string ⟨#[]⟩)).alloc (.cells #[.nilIface] 36)).alloc (.cells #[.slice a ws.length cap] 160)
  have bE := (Boxed.new ((w.alloc (.cells #[.int .i64 (k : Int)] 3)).alloc (.cells #[.string ⟨#[]⟩] 9)) 36 .nilIface).alloc (.cells #[.slice a ws.length cap] 160)
  have bA := Boxed.new (((w.alloc (.cells #[.int .i64 (k : Int)] 3)).alloc (.cells #[.string ⟨#[]⟩] 9)).alloc (.cells #[.nilIface] 36)) 160 (.slice a ws.length cap)
  have hB0 := hb1.alloc (by simp; omega) (.cells #[.slice a ws.length cap] 160)
  have hsz : ((((w.alloc (.cells #[.int .i64 (k : Int)] 3)).alloc (.cells #[.string ⟨#[]⟩] 9)).alloc (.cells #[.nilIface] 36)).alloc (.cells #[.slice a ws.length cap] 160)).heap.size = w.heap.size + 4 := by simp
  simp only [World.size_alloc] at bS bE bA
  obtain ⟨W0, hW0⟩ : ∃ W0, (((w.alloc (.cells #[.int .i64 (k : Int)] 3)).alloc (.cells #[.string ⟨#[]⟩] 9)).alloc (.cells #[.nilIface] 36)).alloc (.cells #[.slice a ws.length cap] 160) = W0 := ⟨_, rfl⟩
  rw [hW0] at bK bS bE bA hB0 hsz ⊢
  have hlow : ∀ x, a = some x → x.block < w.heap.size + 4 := fun x hx => by
    subst hx
    have := (h.wait.blk x.block rfl).2
    omega
  have hsl := h.wait.sl.ob hB0 (Nat.le_refl _)
  have h0 := h.ob hB0 (Nat.le_refl _)
  clear hW0 hd hw h1 hb1
  refine wpIn_rangeFunc_ownH (n := 3) rfl (by omega) (gf := 101) (lb := #[.pointer (some ⟨w.heap.size + 1 + 1 + 1, 0, none⟩)]) rfl trivial (enters_of Tryz.func101 (by kernel_rfl) rfl)
    (bw_stops Fence.wide (3 - 1) trivial rfl (by omega) (w.heap.size + 1 + 1 + 1) (w.heap.size + 4) a cap ws W0 (by omega) (by omega) bA.cell hsl hlow) belowK_t (belowK_b (by omega)) (Below.refl _ _) (fun _ => rfl)
    (fun pre W => ((∀ x ∈ pre, x.2.1 ≠ k) ∧ Boxed W w.heap.size 3 (.int .i64 (k : Int)) ∧ Boxed W (w.heap.size + 1) 9 (.string ⟨#[]⟩) ∧ Boxed W (w.heap.size + 1 + 1) 36 .nilIface ∧ Boxed W (w.heap.size + 1 + 1 + 1) 160 (.slice a ws.length cap)) ∧ Below w.heap.size w W)
    (fun c pre W => (c = .ret ∧ ∃ ini last, pre = ini ++ [last] ∧ (∀ x ∈ ini, x.2.1 ≠ k) ∧ last.2.1 = k ∧ Boxed W (w.heap.size + 1) 9 (.string last.2.2) ∧ Boxed W (w.heap.size + 1 + 1) 36 .nilIface) ∧ Below w.heap.size w W)
    (OwnFrom.and (Own.from (fun s A B row hs hg hr => ⟨hs.1, boxed_own _ _ (fun (_ : Unit) => _) () A B row hs.2.1 hg hr, boxed_own _ _ (fun (_ : Unit) => _) () A B row hs.2.2.1 hg hr, boxed_own _ _ (fun (_ : Unit) => _) () A B row hs.2.2.2.1 hg hr, boxed_own _ _ (fun (_ : Unit) => _) () A B row hs.2.2.2.2 hg hr⟩) _) (ownFrom_below (Nat.le_refl _) (by omega)))
    (fun c => OwnFrom.and (Own.from (fun s A B row hs hg hr => by
      obtain ⟨hc, ini, last, e1, e2, e3, e4, e5⟩ := hs
      exact ⟨hc, ini, last, e1, e2, e3, boxed_own _ _ (fun (_ : Unit) => _) () A B row e4 hg hr, boxed_own _ _ (fun (_ : Unit) => _) () A B row e5 hg hr⟩) _) (ownFrom_below (Nat.le_refl _) (by omega)))
    ⟨⟨by simp, bK, bS, bE, bA⟩, hB0⟩
    (fun x a' W => ∃ Bx, w.heap.size + 1 + 1 < Bx ∧ (W.cell? ⟨Bx, 0, none⟩ = some (.int .i64 (x.2.1 : Int)) ∧ W.cell? ⟨Bx, 1, none⟩ = some (.string x.2.2)) ∧ a' = { tmps := #[.pointer (some ⟨p, 0, none⟩), .int .i64 (k : Int), undef, .pointer (some ⟨w.heap.size, 0, none⟩), .pointer (some ⟨w.heap.size + 1, 0, none⟩), .pointer (some ⟨w.heap.size + 1 + 1, 0, none⟩), undef, .pointer (some ⟨Bx, 0, none⟩), .pointer (some ⟨p, 0, none⟩), .int .i64 (k : Int), .bool false, undef, .pointer (some ⟨p, 0, none⟩), .pointer (some ⟨p, 0, none⟩), .pointer (some ⟨p, 1, none⟩), .slice a ws.length cap, .func (.func 101) #[] #[.pointer (some ⟨w.heap.size + 1 + 1 + 1, 0, none⟩)], .int .i64 (x.1 : Int), .agg #[.int .i64 (x.2.1 : Int), .string x.2.2], undef, undef, undef, undef, undef, undef, undef, undef, undef, undef, undef, undef, undef], defers := [] })
    (fun x a' _ X Y row hs hg hr => by obtain ⟨Bx, h1, ⟨h2, h3⟩, h4⟩ := hs; exact ⟨Bx, h1, ⟨cell_kept h2 hg (fun r e => (hr r e).2), cell_kept h3 hg (fun r e => (hr r e).2)⟩, h4⟩)
    ?assign ?body ?done ?stop
  all_goals
    have hszl : w.heap.size + 4 ≤ W0.heap.size := by omega
    clear hsz
  case assign =>
    rintro l pre x W K ⟨⟨hp, bK1, bS1, bE1, bA1⟩, hB1⟩ hK
    dsimp only [bwEnc]
    gi_wp2
    refine hK _ _ ((KeepsOthers.alloc _ _).from _) ((Below.refl _ W).alloc (by have := bA1.lt; omega) _) ⟨⟨hp, bK1.alloc _, bS1.alloc _, bE1.alloc _, bA1.alloc _⟩, hB1.alloc hB1.size _⟩ ⟨W.heap.size, bE1.lt, ⟨?_, ?_⟩, rfl⟩
    · rw [World.cell?_alloc_at _ _ _ _ rfl]; rfl
    · rw [World.cell?_alloc_at _ _ _ _ rfl]; rfl
  case body =>
    rintro l pre x a' W hl ⟨r', hr'⟩ ⟨⟨hp, bK1, bS1, bE1, bA1⟩, hB1⟩ ⟨Bx, hBx, ⟨cX, cY⟩, rfl⟩ hlt
    have cK := bK1.cell
    have cS := bS1.cell
    have fS := bS1.frozen
    have cE := bE1.cell
    have fE := bE1.frozen
    by_cases hx : x.2.1 = k
    · have hxe : ((x.2.1 : Int) == (k : Int)) = true := by simp [hx]
      have HX : Hid (x.2.1 = k) := hx
      clear hx
      gi_wp2
      exact ⟨((KeepsOthers.setCell _ _ _).trans (KeepsOthers.setCell _ _ _)).from _, ⟨rfl, pre, x, rfl, hp, HX.out, (bS1.set _).other (by omega) _, (bE1.other (by omega) _).set _⟩, (hB1.setCell (p := ⟨w.heap.size + 1, 0, none⟩) (by simp) _).setCell (p := ⟨w.heap.size + 1 + 1, 0, none⟩) (by simp; omega) _⟩
    · have hxe : ((x.2.1 : Int) == (k : Int)) = false := by simp; omega
      have HX : Hid (¬ x.2.1 = k) := hx
      clear hx
      gi_wp2
      exact ⟨KeepsFrom.refl _ _, Below.refl _ _, ⟨fun y hy => (List.mem_append.1 hy).elim (hp y) (fun e => by simp at e; subst e; exact HX.out), bK1, bS1, bE1, bA1⟩, hB1⟩
  case done =>
    rintro D ys W hD rfl ⟨⟨hp, bK1, bS1, bE1, bA1⟩, hB1⟩ hK
    have hnone := rdW_none (d := ls.getD k ByteArray.empty) ws.length (Nat.le_refl _) hp
    rw [Nat.sub_self] at hnone
    have HR : Hid (rdW ws k (ls.getD k ByteArray.empty) = ls.getD k ByteArray.empty) := hnone
    have h2 := h.ob hB1 (Nat.le_refl _)
    have hd := h2.hd
    have hc := h2.cell hk
    have cK := bK1.cell
    have cS := bS1.cell
    have fS := bS1.frozen
    have cE := bE1.cell
    have fE := bE1.frozen
    have hlt1 := bS1.lt
    have hlt2 := bE1.lt
    clear hnone hp h h0 hsl hlow
    obtain ⟨lk, hlk⟩ : ∃ lk, ls.getD k ByteArray.empty = lk := ⟨_, rfl⟩
    have HLK : Hid (ls.getD k ByteArray.empty = lk) := hlk
    rw [hlk] at hc
    clear hlk
    gi_wp2
    gi_region
    gi_wp2
    have c1 := ((bS1.set (.string lk)).other (by omega : w.heap.size + 1 ≠ w.heap.size + 1 + 1) .nilIface).cell
    have c2 := ((bE1.other (by omega : w.heap.size + 1 + 1 ≠ w.heap.size + 1) (.string lk)).set .nilIface).cell
    have hB2 := ((hB1.setCell (p := ⟨w.heap.size + 1, 0, none⟩) (by simp) (.string lk)).setCell (p := ⟨w.heap.size + 1 + 1, 0, none⟩) (by simp; omega) .nilIface).drew
    have hK2 := ((KeepsOthers.setCell W ⟨w.heap.size + 1, 0, none⟩ (.string lk)).trans (KeepsOthers.setCell _ ⟨w.heap.size + 1 + 1, 0, none⟩ .nilIface)).same D _ hK rfl
    generalize (W.setCell ⟨w.heap.size + 1, 0, none⟩ (.string lk)).setCell ⟨w.heap.size + 1 + 1, 0, none⟩ .nilIface = W2 at *
    replace hK2 : W2.drew.heap[D]? = some (.deferred (some [])) := hK2
    replace c1 : W2.drew.cell? ⟨w.heap.size + 1, 0, none⟩ = some (.string lk) := c1
    replace c2 : W2.drew.cell? ⟨w.heap.size + 1 + 1, 0, none⟩ = some .nilIface := c2
    refine ⟨by simp, .inl ⟨_, _, rfl, run_takeDeferred hK2, ?_⟩⟩
    have hc1 := cell_kept c1 (grownBy_putObj' _ D (.deferred none)) (fun r e => by cases e; exact ⟨_, hK2, rfl⟩)
    have hc2 := cell_kept c2 (grownBy_putObj' _ D (.deferred none)) (fun r e => by cases e; exact ⟨_, hK2, rfl⟩)
    refine ⟨.tuple #[.string lk, .nilIface], ?_, by rw [HR.out, HLK.out], hB2.trans (belowK_b (w := w) (Nat.le_refl _) _ D _ _ (by omega) hK2 rfl rfl)⟩
    simp [results, Tryz.f51, go_sem, hc1, hc2]
  case stop =>
    rintro D c pre W hD ⟨j, hj, rfl⟩ ⟨⟨rfl, ini, last, e1, e2, e3, bS1, bE1⟩, hB⟩ hK
    have hl := ini_last e1
    obtain ⟨rfl, rfl⟩ := hl
    have hrd := rdW_hit (d := ls.getD k ByteArray.empty) hj e2 e3
    rw [← hrd] at bS1
    obtain ⟨res, hres⟩ : ∃ res, rdW ws k (ls.getD k ByteArray.empty) = res := ⟨_, rfl⟩
    have HRES : Hid (rdW ws k (ls.getD k ByteArray.empty) = res) := hres
    rw [hres] at bS1
    clear hrd e1 e2 e3 hres
    gi_wp2
    refine ⟨by simp, .inl ⟨_, _, rfl, run_takeDeferred hK, ?_⟩⟩
    have hc1 := cell_kept bS1.cell (grownBy_putObj' _ D (.deferred none)) (fun r e => by cases e; exact ⟨_, hK, rfl⟩)
    have hc2 := cell_kept bE1.cell (grownBy_putObj' _ D (.deferred none)) (fun r e => by cases e; exact ⟨_, hK, rfl⟩)
    refine ⟨.tuple #[.string res, .nilIface], ?_, by rw [HRES.out], hB.trans (belowK_b (w := w) (Nat.le_refl _) W D _ _ (by omega) hK rfl rfl)⟩
    simp [results, Tryz.f51, go_sem, hc1, hc2]
end Go.Proofs.YtoemahhpheobkaaGreatDoor

namespace Go.Proofs.YtoemahhpheobkaaGreatDoor
open Go.RowKit Go.Shelf

theorem Ow.selfB {F : Nat → Prop} {w : World} {e : TypeId} {size : Nat} {v : Value} {n : Nat} {xs : List Value} (h : Ow F w e size v n xs) (B : Nat) : Ow (fun g => F g ∧ (v.ownBlock = some g ∨ B ≤ g)) w e size v n xs := by
  refine ⟨h.1, ?_⟩
  rcases h.2 with hx | ⟨g, off, cap, cur, rfl, hb, rest⟩
  · exact .inl hx
  · exact .inr ⟨g, off, cap, cur, rfl, ⟨hb, .inl rfl⟩, rest⟩
theorem Ow.grown {F : Nat → Prop} {w w' : World} {e : TypeId} {size : Nat} {v : Value} {n : Nat} {xs : List Value} {row : Option Nat} (h : Ow F w e size v n xs) (hg : w.grownBy w' row) (hn : ∀ k, v.ownBlock = some k → row ≠ some k) : Ow F w' e size v n xs := by
  refine ⟨h.1, ?_⟩
  rcases h.2 with hx | ⟨g, off, cap, cur, rfl, hb, hgg, rest⟩
  · exact .inl hx
  · exact .inr ⟨g, off, cap, cur, rfl, hb, (hg.block g (Array.getElem?_eq_some_iff.1 hgg).1 (fun e => hn g rfl e.symm)).trans hgg, rest⟩

theorem infoW : (Tryz.prog.info? 162).map (fun i => (i.zero, i.size, i.bytes)) = some (some (.agg #[.int .i64 0, .string ⟨#[]⟩]), 2, 24) := by kernel_rfl

/-- A write that waits: what stands behind it. -/
def WrPost (p r : Nat) (v : Value) (ls : List ByteArray) (ws : List (Nat × ByteArray)) (w : World) (e : Ending) (w' : World) : Prop :=
  e = .returned .nilIface ∧ ∃ v', DkAt w' p r v' ls ws ∧ (∀ b, v'.ownBlock = some b → v.ownBlock = some b ∨ w.heap.size ≤ b) ∧ Fr (dkS p r v) w w'

set_option maxRecDepth 100000 in
set_option maxHeartbeats 1000000 in
theorem write_ok (p r : Nat) (v : Value) (ls : List ByteArray) (ws : List (Nat × ByteArray)) (k : Nat) (s : ByteArray) (w : World) (h : DkAt w p r v ls ws) (hk : k < ls.length) (hs : s.size = 16) (hws : ws.length ≤ 1000000) :
    Calls Tryz.prog 90 #[.pointer (some ⟨p, 0, none⟩), .int .i64 (k : Int), .string s] w (WrPost p r v ls (ws ++ [(k, s)]) w) := by
  obtain ⟨i0, hi, hz0, hz1, hz2⟩ := info_parts infoW
  have hd := h.hd
  have hw := h.hw
  obtain ⟨a, cap, rfl⟩ := h.wait.shape
  have hbk : badK ls.length (k : Int) = false := by unfold badK; simp; omega
  have q1 : ((s.size : Int) != 16) = false := by simp; omega
  have q2 : ((s.size : Int) == 16) = true := by simp; omega
  have hp := h.head.lt
  have hr := h.row.lt
  have hbl := h.wait.blk
  have how := h.wait.selfB w.heap.size
  have hne := h.ne
  have HS := hidd hs
  clear hs
  go_enter Tryz.func90, Tryz.ntmps90
  go_wp2_with fail
  refine (bad_any p r _ _ _ hd).mono ?_
  rintro e w' ⟨rfl, rfl⟩
  rw [hbk]
  clear hd
  have how1 := how.alloc (.cells #[.int .i64 (k : Int), .string s] 162)
  have hs1 := Src.new (P := Tryz.prog) (size := 2) (tx := 160) Tryz.underlying160 w w.heap.size rfl [.int .i64 (k : Int), .string s] 162 rfl (by intro u hu; simp at hu; rcases hu with rfl | rfl <;> rfl) 1
  have hw1 := (h.alloc (.cells #[.int .i64 (k : Int), .string s] 162)).hw
  have hd1 := (h.alloc (.cells #[.int .i64 (k : Int), .string s] 162)).head
  go_wp2_with (at_builtin; refine wpList_append_ow _ rfl _ _ 160 160 rfl _ ?cF 162 i0 _ 2 24 Tryz.underlying160 hi hz0 hz1 hz2 rfl (by decide) _ _ _ rfl how1 _ _ _ rfl hs1 ?c3 ?c4 ?_)
  case cF => intro g hg; simp at hg; exact ⟨⟨by omega, by omega⟩, .inr (by omega)⟩
  case c3 => unfold maxLen; omega
  case c4 => omega
  intro v' w1 hown' hgrow
  have hh1 : Blk w1 p [.slice (some ⟨r, 0, none⟩) ls.length ls.length, .slice a ws.length cap] 164 := hd1.grown hgrow (fun e => (hbl p e.symm).1.1 rfl)
  have hrow1 := (h.alloc (.cells #[.int .i64 (k : Int), .string s] 162)).row.grown hgrow (fun e => (hbl r e.symm).1.2 rfl)
  have hc1 := hh1.cell (i := 1) (v := .slice a ws.length cap) rfl
  have hf1 := hh1.frozen 1
  obtain ⟨a', cap', rfl⟩ := hown'.shape
  have hset := hh1.set 1 (.slice a' (ws.length + 1) cap')
  have hrow2 := hrow1.other (a := ⟨p, 1, none⟩) (fun e => hne e.symm) (.slice a' (ws.length + 1) cap')
  have hown2 := hown'.set (a := ⟨p, 1, none⟩) (fun e => e.1.1 rfl) (.slice a' (ws.length + 1) cap')
  have hfr : Fr (dkS p r (.slice a ws.length cap)) w w1 := ((Fr.refl _ w).alloc _).grown hgrow (fun k' hk' => .inl (.inr (.inr hk')))
  have hfr2 := hfr.setCell (p := ⟨p, 1, none⟩) (.inl (.inl rfl)) (.slice a' (ws.length + 1) cap')
  have hpos := h.pos
  have hbig := h.big
  have hinr := h.inr
  have hb2 := hown'.blk
  clear hw hw1 hd1 how how1 hs1 hown' hgrow h hh1 hrow1 hfr
  go_wp2_with fail
  go_ret
  refine ⟨rfl, _, ⟨hset, hrow2, ?_, hne, hpos, hbig, ?_⟩, fun b hb => (hb2 b hb).1.2, hfr2⟩
  · have := hown2.mono (F' := fun g => g ≠ p ∧ g ≠ r) (fun g hg => hg.1)
    have e : wcells (ws ++ [(k, s)]) = wcells ws ++ [.int .i64 (k : Int), .string s] := by rw [wcells_append]; rfl
    rw [e]
    simpa using this
  · intro x hx
    rcases List.mem_append.1 hx with hx | hx
    · exact hinr x hx
    · simp at hx; subst hx; exact hk
theorem write_bad (E : Nat → Addr) (p r : Nat) (v : Value) (ls : List ByteArray) (ws : List (Nat × ByteArray)) (k : Int) (s : ByteArray) (w : World) (h : DkAt w p r v ls ws) (hk : badK ls.length k = true ∨ s.size ≠ 16)
    (B : Nat) (G : List Nat) (hE : Env G B w E) (hg : 4 ∈ G) :
    Calls Tryz.prog 90 #[.pointer (some ⟨p, 0, none⟩), .int .i64 k, .string s] w fun e w' => e = .returned (erv E 4) ∧ w = w' := by
  have hd := h.hd
  have hc := hE.cell _ hg
  unfold erv at *
  by_cases hb : badK ls.length k = true
  · clear h hE hk
    go_enter Tryz.func90, Tryz.ntmps90
    go_wp2_with fail
    refine (bad_any p r _ _ _ hd).mono ?_
    rintro e w' ⟨rfl, rfl⟩
    rw [hb]
    go_wp2_with fail
    go_ret
    exact ⟨rfl, rfl⟩
  · have hb' : badK ls.length k = false := by simpa using hb
    have hs : s.size ≠ 16 := hk.resolve_left hb
    have q1 : ((s.size : Int) != 16) = true := by rw [bne_iff_ne]; omega
    have q2 : ((s.size : Int) == 16) = false := by simp; omega
    clear h hE hk hb hs
    go_enter Tryz.func90, Tryz.ntmps90
    go_wp2_with fail
    refine (bad_any p r _ _ _ hd).mono ?_
    rintro e w' ⟨rfl, rfl⟩
    rw [hb']
    go_wp2_with fail
    go_ret
    exact ⟨rfl, rfl⟩

/-- What a barrier, and a crash, leave. -/
def CrPost (keep : Nat → Bool) (p r : Nat) (ls : List ByteArray) (ws : List (Nat × ByteArray)) (w : World) (e : Ending) (w' : World) : Prop :=
  (∃ u, e = .returned u) ∧ DkAt w' p r (.slice none 0 0) (crTo keep ls ws ws.length) [] ∧ Fr (fun b => b = p ∨ b = r) w w'

set_option maxRecDepth 100000 in
set_option maxHeartbeats 2000000 in
theorem barrier_any (p r : Nat) (v : Value) (ls : List ByteArray) (ws : List (Nat × ByteArray)) (w : World) (h : DkAt w p r v ls ws) :
    Calls Tryz.prog 91 #[.pointer (some ⟨p, 0, none⟩)] w (CrPost (fun _ => true) p r ls ws w) := by
  have hw := h.hw
  obtain ⟨a, cap, rfl⟩ := h.wait.shape
  have hsl := h.wait.sl
  have hm := hsl.le
  have hp := h.head.lt
  have hr := h.row.lt
  have hne := h.ne
  have hbl := h.wait.blk
  go_enter Tryz.func91, Tryz.ntmps91
  go_wp2_with fail
  go_loopw [9] (fun i wr => ∃ k : Nat, k ≤ ws.length ∧ i = .int .i64 (k : Int) ∧ Blk wr r ((crTo (fun _ => true) ls ws k).map Value.string) 9 ∧ Fr (fun b => b = r) w wr) (fun i _ => ws.length - (intOf i).toNat)
  case atStart => exact ⟨0, Nat.zero_le _, rfl, h.row, Fr.refl _ _⟩
  case round =>
    obtain ⟨k, hk, rfl, hrow, hfr⟩ := hrel
    have hhd := h.head.fr hfr hne
    by_cases hlt : k < ws.length
    · obtain ⟨w1, w2⟩ := wcells_at ws k hlt
      have hslr := hsl.fr hfr (fun b hb e => (hbl b hb).1.2 e)
      obtain ⟨b, off, rfl, hcs⟩ : ∃ b off, a = some ⟨b, off, none⟩ ∧ ∀ j (hj : j < (wcells ws).length), wr.cell? ⟨b, off + j, none⟩ = some (wcells ws)[j] := by
        obtain ⟨a', cap', he, _, _, _, h3⟩ := hslr
        simp only [Value.slice.injEq] at he
        obtain ⟨rfl, _, rfl⟩ := he
        obtain ⟨b, off, rfl, _, hcs⟩ := h3.resolve_left (by omega)
        exact ⟨b, off, rfl, hcs⟩
      have hl2 := wcells_len ws
      have hc1 : wr.cell? ⟨b, off + k * 2, none⟩ = some (.int .i64 (ws[k].1 : Int)) := (hcs (k * 2) (by omega)).trans (by rw [← w1, List.getElem?_eq_getElem])
      have hc2 : wr.cell? ⟨b, off + k * 2 + 1, none⟩ = some (.string ws[k].2) := (hcs (k * 2 + 1) (by omega)).trans (by rw [← w2, List.getElem?_eq_getElem])
      have hin := h.inr _ (List.getElem_mem hlt)
      have HC := hidd (crTo_y (keep := fun _ => true) (ls := ls) hlt rfl)
      have hlc := crTo_len (fun _ => true) ls ws k
      have q1 : (0 : Int) ≤ (k : Int) := by omega
      have q2 : (k : Int) < (ws.length : Int) := by omega
      clear hcs w1 w2 hl2 hslr
      generalize crTo (fun _ => true) ls ws k = lk at *
      generalize ws[k] = x at *
      have hcx : wr.cell? ⟨r, x.1, none⟩ = some (.string (lk.getD x.1 ByteArray.empty)) := hrow.cell (by simp [List.getD_eq_getElem?_getD, List.getElem?_eq_getElem (show x.1 < lk.length by omega)])
      have hHL := hidd hlc
      clear hlc
      generalize lk.getD x.1 ByteArray.empty = lx at *
      have hp1 := (hhd.alloc (.cells #[.int .i64 (x.1 : Int), .string x.2] 162)).cell (i := 0) (v := .slice (some ⟨r, 0, none⟩) ls.length ls.length) rfl
      have hq := Blk.new wr [.int .i64 (x.1 : Int), .string x.2] 162
      have hq1 := hq.cell (i := 0) (v := .int .i64 (x.1 : Int)) rfl
      have hq2 := hq.cell (i := 1) (v := .string x.2) rfl
      have hr1 := (hrow.alloc (.cells #[.int .i64 (x.1 : Int), .string x.2] 162))
      have hr2 := hr1.frozen x.1
      have hcx1 : (wr.alloc (.cells #[.int .i64 (x.1 : Int), .string x.2] 162)).cell? ⟨r, x.1, none⟩ = some (.string lx) := by
        rw [((Below.refl wr.heap.size wr).alloc (Nat.le_refl _) _).cell hrow.lt]; exact hcx
      have hset := hr1.set x.1 (.string x.2)
      have hfr1 := (hfr.alloc (.cells #[.int .i64 (x.1 : Int), .string x.2] 162)).setCell (p := ⟨r, x.1, none⟩) (.inl rfl) (.string x.2)
      go_wp2_with fail
      generalize wr.alloc _ = W at *
      generalize wr.heap.size = q at *
      go_region
      go_wp2_with fail
      go_roundw
      case rel => exact ⟨k + 1, hlt, by go_num, by rw [HC.out, List.map_set]; exact hset.drew, hfr1.drew⟩
      case measure => simp [intOf]; omega
    · obtain rfl : k = ws.length := by omega
      have hhd0 := hhd.cell (i := 1) (v := .slice a ws.length cap) rfl
      have hfz := hhd.frozen 1
      clear hw
      go_wp2_with fail
      go_end0
      have hh2 := hhd.set 1 (.slice none 0 0)
      have hr2 := hrow.other (a := ⟨p, 1, none⟩) (fun e => hne e.symm) (.slice none 0 0)
      have hl := crTo_len (fun _ => true) ls ws ws.length
      refine ⟨⟨_, rfl⟩, ⟨by rw [hl]; exact hh2, hr2, Ow.nil _ _ _ _, hne, by rw [hl]; exact h.pos, by rw [hl]; exact h.big, by simp⟩, (hfr.mono (fun _ _ x => .inr x)).setCell (.inl (.inl rfl)) _⟩
/-- Is a number one of those that are kept? -/
def keptB (keep : List Int) (i : Nat) : Bool := decide ((i : Int) ∈ keep)
theorem keptB_eq (keep : List Int) (i : Nat) : decide ((i : Int) ∈ keep) = keptB keep i := rfl

end Go.Proofs.YtoemahhpheobkaaGreatDoor
