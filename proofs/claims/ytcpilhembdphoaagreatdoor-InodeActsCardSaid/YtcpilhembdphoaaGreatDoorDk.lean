/- The contracts of package disk but New: reading, waiting. Condition: the receiver is a disk that New gave. -/
import Derived.Test.YtcpilhembdphoaaGreatDoorBw
import Derived.Test.YtcpilhembdphoaaGreatDoorApp
import Derived.Test.YtcpilhembdphoaaGreatDoorSp4
import Derived.RegionTactic
import Derived.BigRegion
namespace Go.Proofs.YtcpilhembdphoaaGreatDoor
open Go.RowKit Go.Shelf
attribute [local go_sem] Oper.semAt_some

/-- A disk: its struct lies in block p, its texts in block r, its writes that wait at v. -/
structure DkAt (w : World) (p r : Nat) (v : Value) (ls : List ByteArray) (ws : List (Nat × ByteArray)) : Prop where
  head : Blk w p [.slice (some ⟨r, 0, none⟩) ls.length ls.length, v] 80
  row : Blk w r (ls.map Value.string) 9
  wait : Ow (fun g => g ≠ p ∧ g ≠ r) w 82 2 v ws.length (wcells ws)
  ne : p ≠ r
  pos : 0 < ls.length
  big : ls.length ≤ 512
  inr : ∀ x ∈ ws, x.1 < ls.length

/-- The blocks that an act on a disk may turn. -/
def dkS (p r : Nat) (v : Value) (b : Nat) : Prop := b = p ∨ b = r ∨ v.ownBlock = some b

section
variable {w w' : World} {p r : Nat} {v : Value} {ls : List ByteArray} {ws : List (Nat × ByteArray)}
theorem DkAt.fr {S : Nat → Prop} (h : DkAt w p r v ls ws) (hf : Fr S w w') (hS : ∀ b, dkS p r v b → ¬ S b) : DkAt w' p r v ls ws :=
  ⟨h.head.fr hf (hS p (.inl rfl)), h.row.fr hf (hS r (.inr (.inl rfl))), h.wait.fr hf (fun k hk => hS k (.inr (.inr hk))), h.ne, h.pos, h.big, h.inr⟩
theorem DkAt.lt (h : DkAt w p r v ls ws) : ∀ b, dkS p r v b → b < w.heap.size := by
  rintro b (rfl | rfl | hb)
  · exact h.head.lt
  · exact h.row.lt
  · exact (h.wait.blk b hb).2
theorem DkAt.ob {B : Nat} (h : DkAt w p r v ls ws) (hf : Below B w w') (hB : w.heap.size ≤ B) : DkAt w' p r v ls ws :=
  h.fr (S := fun b => B ≤ b) (Fr.of_below hf (fun _ _ x => x)) (fun b hb => by have := h.lt b hb; omega)
theorem DkAt.alloc (h : DkAt w p r v ls ws) (o : Obj) : DkAt (w.alloc o) p r v ls ws := h.ob ((Below.refl _ w).alloc (Nat.le_refl _) o) (Nat.le_refl _)
theorem DkAt.hd (h : DkAt w p r v ls ws) : w.cell? ⟨p, 0, none⟩ = some (.slice (some ⟨r, 0, none⟩) ls.length ls.length) := h.head.cell rfl
theorem DkAt.hw (h : DkAt w p r v ls ws) : w.cell? ⟨p, 1, none⟩ = some v := h.head.cell rfl
theorem DkAt.cell (h : DkAt w p r v ls ws) {k : Nat} (hk : k < ls.length) : w.cell? ⟨r, k, none⟩ = some (.string (ls.getD k ByteArray.empty)) :=
  h.row.cell (by simp [List.getD_eq_getElem?_getD, List.getElem?_eq_getElem hk])
end

theorem bad_any (p r n : Nat) (k : Int) (w : World) (hd : w.cell? ⟨p, 0, none⟩ = some (.slice (some ⟨r, 0, none⟩) n n)) :
    Calls Tryz.prog 29 #[.pointer (some ⟨p, 0, none⟩), .int .i64 k] w (IsBool (badK n k) w) := by
  unfold badK
  by_cases h0 : k < 0
  · have h1 : decide (k < 0) = true := by simpa using h0
    rw [h1, Bool.true_or]
    go_enter Tryz.func29, Tryz.ntmps29
    go_wp2
    go_ret
    exact ⟨rfl, rfl⟩
  · have h1 : decide (k < 0) = false := by simpa using h0
    rw [h1, Bool.false_or]
    by_cases h2 : (n : Int) ≤ k
    · have h3 : decide ((n : Int) ≤ k) = true := by simpa using h2
      rw [h3]
      go_enter Tryz.func29, Tryz.ntmps29
      go_wp2
      go_ret
      exact ⟨rfl, rfl⟩
    · have h3 : decide ((n : Int) ≤ k) = false := by simpa using h2
      rw [h3]
      go_enter Tryz.func29, Tryz.ntmps29
      go_wp2
      go_ret
      exact ⟨rfl, rfl⟩

set_option maxRecDepth 100000 in
theorem read_bad (E : Nat → Addr) (p r : Nat) (v : Value) (ls : List ByteArray) (ws : List (Nat × ByteArray)) (k : Int) (w : World) (h : DkAt w p r v ls ws) (hk : badK ls.length k = true)
    (B : Nat) (G : List Nat) (hE : Env G B w E) (hg : 0 ∈ G) :
    Calls Tryz.prog 32 #[.pointer (some ⟨p, 0, none⟩), .int .i64 k] w fun e w' => e = .returned (.tuple #[.string ByteArray.empty, erv E 0]) ∧ Below w.heap.size w w' := by
  have hb1 : Below w.heap.size w (((w.alloc (.cells #[.int .i64 k] 3)).alloc (.cells #[.string ⟨#[]⟩] 9)).alloc (.cells #[.nilIface] 28)) := (((Below.refl _ w).alloc (Nat.le_refl _) _).alloc (by simp) _).alloc (by simp; omega) _
  have hd := (h.ob hb1 (Nat.le_refl _)).hd
  have hc := (hE.ob hb1).cell _ hg
  unfold erv at *
  clear h hE
  go_enter Tryz.func32, Tryz.ntmps32
  go_wp2_with fail
  refine (bad_any p r _ k _ hd).mono ?_
  rintro e w' ⟨rfl, rfl⟩
  rw [hk]
  go_wp2_with fail
  go_region
  all_goals (
    go_wp2
    refine bodyPost_ret (v := .tuple #[.string ByteArray.empty, .iface 202 (.pointer (some (E 0)))]) ?_ rfl ⟨rfl, ((((Below.refl _ w).alloc (Nat.le_refl _) _).alloc (by simp) _).alloc (by simp; omega) _).drew⟩
    simp [results, Tryz.f32, go_sem]
    try rfl)

theorem rdW_none {ws : List (Nat × ByteArray)} {k : Nat} {d : ByteArray} : ∀ j, j ≤ ws.length → (∀ x ∈ bwTo ws j, x.2.1 ≠ k) → rdW ws k d = rdW (ws.take (ws.length - j)) k d
  | 0, _, _ => by simp
  | j + 1, hj, h => by
    have h1 : rdW ws k d = rdW (ws.take (ws.length - j)) k d := rdW_none (d := d) j (by omega) (fun x hx => h x (by rw [bwTo_succ]; exact List.mem_append_left _ hx))
    have h2 := h _ (by rw [bwTo_succ]; exact List.mem_append_right _ (List.mem_singleton.2 rfl))
    have hi : ws.length - 1 - j < ws.length := by omega
    have e : ws.getD (ws.length - 1 - j) (0, ByteArray.empty) = ws[ws.length - 1 - j] := by simp [List.getD_eq_getElem?_getD, List.getElem?_eq_getElem hi]
    rw [h1, show ws.length - j = (ws.length - 1 - j) + 1 by omega, rdW_take_miss hi (by simpa only [e] using h2), show ws.length - (j + 1) = ws.length - 1 - j by omega]
theorem ini_last {ws : List (Nat × ByteArray)} {j : Nat} {ini : List (Nat × (Nat × ByteArray))} {last : Nat × (Nat × ByteArray)} (h : bwTo ws (j + 1) = ini ++ [last]) : bwTo ws j = ini ∧ (ws.length - 1 - j, ws.getD (ws.length - 1 - j) (0, ByteArray.empty)) = last := by
  rw [bwTo_succ] at h
  obtain ⟨h1, h2⟩ := List.append_inj' h rfl
  exact ⟨h1, by simpa using h2⟩
theorem rdW_hit {ws : List (Nat × ByteArray)} {k j : Nat} {d : ByteArray} (hj : j < ws.length) (h : ∀ x ∈ bwTo ws j, x.2.1 ≠ k) (hk : (ws.length - 1 - j, ws.getD (ws.length - 1 - j) (0, ByteArray.empty)).2.1 = k) : rdW ws k d = (ws.length - 1 - j, ws.getD (ws.length - 1 - j) (0, ByteArray.empty)).2.2 := by
  have hi : ws.length - 1 - j < ws.length := by omega
  have e : ws.getD (ws.length - 1 - j) (0, ByteArray.empty) = ws[ws.length - 1 - j] := by simp [List.getD_eq_getElem?_getD, List.getElem?_eq_getElem hi]
  simp only [e] at hk ⊢
  rw [rdW_none j (by omega) h, show ws.length - j = (ws.length - 1 - j) + 1 by omega, rdW_take_hit hi hk]

set_option maxRecDepth 100000 in
set_option maxHeartbeats 4000000 in
theorem read_ok (p r : Nat) (v : Value) (ls : List ByteArray) (ws : List (Nat × ByteArray)) (k : Nat) (w : World) (h : DkAt w p r v ls ws) (hk : k < ls.length) :
    Calls Tryz.prog 32 #[.pointer (some ⟨p, 0, none⟩), .int .i64 (k : Int)] w fun e w' => e = .returned (.tuple #[.string (rdW ws k (ls.getD k ByteArray.empty)), .nilIface]) ∧ Below w.heap.size w w' := by
  have hb1 : Below w.heap.size w (((w.alloc (.cells #[.int .i64 (k : Int)] 3)).alloc (.cells #[.string ⟨#[]⟩] 9)).alloc (.cells #[.nilIface] 28)) := (((Below.refl _ w).alloc (Nat.le_refl _) _).alloc (by simp) _).alloc (by simp; omega) _
  have h1 := h.ob hb1 (Nat.le_refl _)
  have hd := h1.hd
  have hw := h1.hw
  obtain ⟨a, cap, rfl⟩ := h.wait.shape
  have hbk : badK ls.length (k : Int) = false := by unfold badK; simp; omega
  refine (callsIn_wide (n := 3)).1 ?_
  refine callsIn_of_wp_marks Tryz.func32 rfl trivial ?_ rfl
  simp only [Tryz.ntmps32, List.size_toArray, List.length_cons, List.length_nil, Nat.reduceAdd, Nat.reduceSub, Array.replicate_succ, Array.replicate_zero, List.push_toArray, List.append_toArray, List.nil_append, List.cons_append]
  gi_wp2_with fail
  refine ⟨trivial, (callsIn_wide.2 (bad_any p r _ _ _ hd)).mono ?_⟩
  rintro e w' ⟨rfl, rfl⟩
  rw [hbk]
  gi_wp2_with fail
  refine ⟨trivial, (bw_in Fence.wide (3 - 1) trivial rfl _ _ _ _).mono ?_⟩
  rintro e w' ⟨rfl, rfl⟩
  gi_wp2_with fail
  have bK := (((Boxed.new w 3 (.int .i64 (k : Int))).alloc (.cells #[.string ⟨#[]⟩] 9)).alloc (.cells #[.nilIface] 28)).alloc (.cells #[.slice a ws.length cap] 78)
  have bS := ((Boxed.new (w.alloc (.cells #[.int .i64 (k : Int)] 3)) 9 (.string ⟨#[]⟩)).alloc (.cells #[.nilIface] 28)).alloc (.cells #[.slice a ws.length cap] 78)
  have bE := (Boxed.new ((w.alloc (.cells #[.int .i64 (k : Int)] 3)).alloc (.cells #[.string ⟨#[]⟩] 9)) 28 .nilIface).alloc (.cells #[.slice a ws.length cap] 78)
  have bA := Boxed.new (((w.alloc (.cells #[.int .i64 (k : Int)] 3)).alloc (.cells #[.string ⟨#[]⟩] 9)).alloc (.cells #[.nilIface] 28)) 78 (.slice a ws.length cap)
  have hB0 := hb1.alloc (by simp; omega) (.cells #[.slice a ws.length cap] 78)
  have hsz : ((((w.alloc (.cells #[.int .i64 (k : Int)] 3)).alloc (.cells #[.string ⟨#[]⟩] 9)).alloc (.cells #[.nilIface] 28)).alloc (.cells #[.slice a ws.length cap] 78)).heap.size = w.heap.size + 4 := by simp
  simp only [World.size_alloc] at bS bE bA
  obtain ⟨W0, hW0⟩ : ∃ W0, (((w.alloc (.cells #[.int .i64 (k : Int)] 3)).alloc (.cells #[.string ⟨#[]⟩] 9)).alloc (.cells #[.nilIface] 28)).alloc (.cells #[.slice a ws.length cap] 78) = W0 := ⟨_, rfl⟩
  rw [hW0] at bK bS bE bA hB0 hsz ⊢
  have hlow : ∀ x, a = some x → x.block < w.heap.size + 4 := fun x hx => by
    subst hx
    have := (h.wait.blk x.block rfl).2
    omega
  have hsl := h.wait.sl.ob hB0 (Nat.le_refl _)
  have h0 := h.ob hB0 (Nat.le_refl _)
  clear hW0 hd hw h1 hb1
  refine wpIn_rangeFunc_ownH (n := 3) rfl (by omega) (gf := 75) (lb := #[.pointer (some ⟨w.heap.size + 1 + 1 + 1, 0, none⟩)]) rfl trivial (enters_of Tryz.func75 (by kernel_rfl) rfl)
    (bw_stops Fence.wide (3 - 1) trivial rfl (by omega) (w.heap.size + 1 + 1 + 1) (w.heap.size + 4) a cap ws W0 (by omega) (by omega) bA.cell hsl hlow) belowK_t (belowK_b (by omega)) (Below.refl _ _) (fun _ => rfl)
    (fun pre W => ((∀ x ∈ pre, x.2.1 ≠ k) ∧ Boxed W w.heap.size 3 (.int .i64 (k : Int)) ∧ Boxed W (w.heap.size + 1) 9 (.string ⟨#[]⟩) ∧ Boxed W (w.heap.size + 1 + 1) 28 .nilIface ∧ Boxed W (w.heap.size + 1 + 1 + 1) 78 (.slice a ws.length cap)) ∧ Below w.heap.size w W)
    (fun c pre W => (c = .ret ∧ ∃ ini last, pre = ini ++ [last] ∧ (∀ x ∈ ini, x.2.1 ≠ k) ∧ last.2.1 = k ∧ Boxed W (w.heap.size + 1) 9 (.string last.2.2) ∧ Boxed W (w.heap.size + 1 + 1) 28 .nilIface) ∧ Below w.heap.size w W)
    (OwnFrom.and (Own.from (fun s A B row hs hg hr => ⟨hs.1, boxed_own _ _ (fun (_ : Unit) => _) () A B row hs.2.1 hg hr, boxed_own _ _ (fun (_ : Unit) => _) () A B row hs.2.2.1 hg hr, boxed_own _ _ (fun (_ : Unit) => _) () A B row hs.2.2.2.1 hg hr, boxed_own _ _ (fun (_ : Unit) => _) () A B row hs.2.2.2.2 hg hr⟩) _) (ownFrom_below (Nat.le_refl _) (by omega)))
    (fun c => OwnFrom.and (Own.from (fun s A B row hs hg hr => by
      obtain ⟨hc, ini, last, e1, e2, e3, e4, e5⟩ := hs
      exact ⟨hc, ini, last, e1, e2, e3, boxed_own _ _ (fun (_ : Unit) => _) () A B row e4 hg hr, boxed_own _ _ (fun (_ : Unit) => _) () A B row e5 hg hr⟩) _) (ownFrom_below (Nat.le_refl _) (by omega)))
    ⟨⟨by simp, bK, bS, bE, bA⟩, hB0⟩
    (fun x a' W => ∃ Bx, w.heap.size + 1 + 1 < Bx ∧ (W.cell? ⟨Bx, 0, none⟩ = some (.int .i64 (x.2.1 : Int)) ∧ W.cell? ⟨Bx, 1, none⟩ = some (.string x.2.2)) ∧ a' = { tmps := #[.pointer (some ⟨p, 0, none⟩), .int .i64 (k : Int), undef, .pointer (some ⟨w.heap.size, 0, none⟩), .pointer (some ⟨w.heap.size + 1, 0, none⟩), .pointer (some ⟨w.heap.size + 1 + 1, 0, none⟩), undef, .pointer (some ⟨Bx, 0, none⟩), .pointer (some ⟨p, 0, none⟩), .int .i64 (k : Int), .bool false, undef, .pointer (some ⟨p, 0, none⟩), .pointer (some ⟨p, 0, none⟩), .pointer (some ⟨p, 1, none⟩), .slice a ws.length cap, .func (.func 75) #[] #[.pointer (some ⟨w.heap.size + 1 + 1 + 1, 0, none⟩)], .int .i64 (x.1 : Int), .agg #[.int .i64 (x.2.1 : Int), .string x.2.2], undef, undef, undef, undef, undef, undef, undef, undef, undef, undef, undef, undef, undef], defers := [] })
    (fun x a' _ X Y row hs hg hr => by obtain ⟨Bx, h1, ⟨h2, h3⟩, h4⟩ := hs; exact ⟨Bx, h1, ⟨cell_kept h2 hg (fun r e => (hr r e).2), cell_kept h3 hg (fun r e => (hr r e).2)⟩, h4⟩)
    ?assign ?body ?done ?stop
  all_goals
    have hszl : w.heap.size + 4 ≤ W0.heap.size := by omega
    clear hsz
  case assign =>
    rintro l pre x W K ⟨⟨hp, bK1, bS1, bE1, bA1⟩, hB1⟩ hK
    dsimp only [bwEnc]
    gi_wp2
    refine hK _ _ ((KeepsOthers.alloc _ _).from _) ((Below.refl _ W).alloc (by have := bA1.lt; omega) _) ⟨⟨hp, bK1.alloc _, bS1.alloc _, bE1.alloc _, bA1.alloc _⟩, hB1.alloc hB1.size _⟩ ⟨W.heap.size, bE1.lt, ⟨?_, ?_⟩, rfl⟩
    · rw [World.cell?_alloc_at _ _ _ _ rfl]; rfl
    · rw [World.cell?_alloc_at _ _ _ _ rfl]; rfl
  case body =>
    rintro l pre x a' W hl ⟨r', hr'⟩ ⟨⟨hp, bK1, bS1, bE1, bA1⟩, hB1⟩ ⟨Bx, hBx, ⟨cX, cY⟩, rfl⟩ hlt
    have cK := bK1.cell
    have cS := bS1.cell
    have fS := bS1.frozen
    have cE := bE1.cell
    have fE := bE1.frozen
    by_cases hx : x.2.1 = k
    · have hxe : ((x.2.1 : Int) == (k : Int)) = true := by simp [hx]
      have HX : Hid (x.2.1 = k) := hx
      clear hx
      gi_wp2
      exact ⟨((KeepsOthers.setCell _ _ _).trans (KeepsOthers.setCell _ _ _)).from _, ⟨rfl, pre, x, rfl, hp, HX.out, (bS1.set _).other (by omega) _, (bE1.other (by omega) _).set _⟩, (hB1.setCell (p := ⟨w.heap.size + 1, 0, none⟩) (by simp) _).setCell (p := ⟨w.heap.size + 1 + 1, 0, none⟩) (by simp; omega) _⟩
    · have hxe : ((x.2.1 : Int) == (k : Int)) = false := by simp; omega
      have HX : Hid (¬ x.2.1 = k) := hx
      clear hx
      gi_wp2
      exact ⟨KeepsFrom.refl _ _, Below.refl _ _, ⟨fun y hy => (List.mem_append.1 hy).elim (hp y) (fun e => by simp at e; subst e; exact HX.out), bK1, bS1, bE1, bA1⟩, hB1⟩
  case done =>
    rintro D ys W hD rfl ⟨⟨hp, bK1, bS1, bE1, bA1⟩, hB1⟩ hK
    have hnone := rdW_none (d := ls.getD k ByteArray.empty) ws.length (Nat.le_refl _) hp
    rw [Nat.sub_self] at hnone
    have HR : Hid (rdW ws k (ls.getD k ByteArray.empty) = ls.getD k ByteArray.empty) := hnone
    have h2 := h.ob hB1 (Nat.le_refl _)
    have hd := h2.hd
    have hc := h2.cell hk
    have cK := bK1.cell
    have cS := bS1.cell
    have fS := bS1.frozen
    have cE := bE1.cell
    have fE := bE1.frozen
    have hlt1 := bS1.lt
    have hlt2 := bE1.lt
    clear hnone hp h h0 hsl hlow
    obtain ⟨lk, hlk⟩ : ∃ lk, ls.getD k ByteArray.empty = lk := ⟨_, rfl⟩
    have HLK : Hid (ls.getD k ByteArray.empty = lk) := hlk
    rw [hlk] at hc
    clear hlk
    gi_wp2
    gi_region
    gi_wp2
    have c1 := ((bS1.set (.string lk)).other (by omega : w.heap.size + 1 ≠ w.heap.size + 1 + 1) .nilIface).cell
    have c2 := ((bE1.other (by omega : w.heap.size + 1 + 1 ≠ w.heap.size + 1) (.string lk)).set .nilIface).cell
    have hB2 := ((hB1.setCell (p := ⟨w.heap.size + 1, 0, none⟩) (by simp) (.string lk)).setCell (p := ⟨w.heap.size + 1 + 1, 0, none⟩) (by simp; omega) .nilIface).drew
    have hK2 := ((KeepsOthers.setCell W ⟨w.heap.size + 1, 0, none⟩ (.string lk)).trans (KeepsOthers.setCell _ ⟨w.heap.size + 1 + 1, 0, none⟩ .nilIface)).same D _ hK rfl
    generalize (W.setCell ⟨w.heap.size + 1, 0, none⟩ (.string lk)).setCell ⟨w.heap.size + 1 + 1, 0, none⟩ .nilIface = W2 at *
    replace hK2 : W2.drew.heap[D]? = some (.deferred (some [])) := hK2
    replace c1 : W2.drew.cell? ⟨w.heap.size + 1, 0, none⟩ = some (.string lk) := c1
    replace c2 : W2.drew.cell? ⟨w.heap.size + 1 + 1, 0, none⟩ = some .nilIface := c2
    refine ⟨by simp, .inl ⟨_, _, rfl, run_takeDeferred hK2, ?_⟩⟩
    have hc1 := cell_kept c1 (grownBy_putObj' _ D (.deferred none)) (fun r e => by cases e; exact ⟨_, hK2, rfl⟩)
    have hc2 := cell_kept c2 (grownBy_putObj' _ D (.deferred none)) (fun r e => by cases e; exact ⟨_, hK2, rfl⟩)
    refine ⟨.tuple #[.string lk, .nilIface], ?_, by rw [HR.out, HLK.out], hB2.trans (belowK_b (w := w) (Nat.le_refl _) _ D _ _ (by omega) hK2 rfl rfl)⟩
    simp [results, Tryz.f32, go_sem, hc1, hc2]
  case stop =>
    rintro D c pre W hD ⟨j, hj, rfl⟩ ⟨⟨rfl, ini, last, e1, e2, e3, bS1, bE1⟩, hB⟩ hK
    have hl := ini_last e1
    obtain ⟨rfl, rfl⟩ := hl
    have hrd := rdW_hit (d := ls.getD k ByteArray.empty) hj e2 e3
    rw [← hrd] at bS1
    obtain ⟨res, hres⟩ : ∃ res, rdW ws k (ls.getD k ByteArray.empty) = res := ⟨_, rfl⟩
    have HRES : Hid (rdW ws k (ls.getD k ByteArray.empty) = res) := hres
    rw [hres] at bS1
    clear hrd e1 e2 e3 hres
    gi_wp2
    refine ⟨by simp, .inl ⟨_, _, rfl, run_takeDeferred hK, ?_⟩⟩
    have hc1 := cell_kept bS1.cell (grownBy_putObj' _ D (.deferred none)) (fun r e => by cases e; exact ⟨_, hK, rfl⟩)
    have hc2 := cell_kept bE1.cell (grownBy_putObj' _ D (.deferred none)) (fun r e => by cases e; exact ⟨_, hK, rfl⟩)
    refine ⟨.tuple #[.string res, .nilIface], ?_, by rw [HRES.out], hB.trans (belowK_b (w := w) (Nat.le_refl _) W D _ _ (by omega) hK rfl rfl)⟩
    simp [results, Tryz.f32, go_sem, hc1, hc2]
end Go.Proofs.YtcpilhembdphoaaGreatDoor
