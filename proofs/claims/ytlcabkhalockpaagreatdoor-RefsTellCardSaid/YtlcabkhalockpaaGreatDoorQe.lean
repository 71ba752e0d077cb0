/- The contract of refs.Dead. Condition: the packs and the names are there, the variables read as listed. -/
import Derived.Test.YtlcabkhalockpaaGreatDoorQd
namespace Go.Proofs.YtlcabkhalockpaaGreatDoor
open Go.RowKit Go.Shelf Go.Maps
attribute [local go_sem] Oper.semAt_some

/-- What Dead says. -/
def DeP (E : Nat → Addr) (L : List Pv) (names : List ByteArray) (w : World) (e : Ending) (w' : World) : Prop :=
  ∃ (c : List ByteArray) (a : Option Addr) (k : Nat) (ev : Value), e = .returned (.tuple #[.slice a c.length k, ev]) ∧ FaV E ev (closE L names).1 (closE L names).2 w' ∧ TxI c (.slice a c.length k) w' ∧ Below w.heap.size w w' ∧
    ((closE L names).1 = 0 → Good (pnL L) ∧ (∀ s ∈ names, s ∈ nmL L) ∧ ∃ live, Clo (pnL L) names live ∧ c = deadOf (pnL L) live) ∧ ((closE L names).1 ≠ 0 → c = [])

/-- The dead ones that came. -/
def fP (lv : List ByteArray) (pre : List (Nat × Pv)) : List ByteArray := (pre.map fun x => x.2.name).filter fun s => !inB s lv
theorem fP_snoc (lv : List ByteArray) (pre : List (Nat × Pv)) (x : Nat × Pv) : fP lv (pre ++ [x]) = fP lv pre ++ (if inB x.2.name lv = true then [] else [x.2.name]) := by
  unfold fP
  rw [List.map_append, List.filter_append]
  congr 1
  cases h : inB x.2.name lv <;> simp [h]
theorem fP_all (lv : List ByteArray) (L : List Pv) : fP lv (bpTo L L.length) = deadOf (pnL L) lv := by
  unfold fP deadOf bpTo
  rw [pnL_names]
  congr 1
  unfold nmL
  rw [List.map_map]
  apply List.ext_getElem
  · simp
  · intro i h1 h2
    simp only [List.length_map, List.length_range] at h1
    simp only [List.getElem_map, List.getElem_range, List.getElem_reverse, Function.comp_apply, List.length_map]
    have : L.length - 1 - i < L.length := by omega
    rw [List.getD_eq_getElem?_getD, List.getElem?_eq_getElem this]
    rfl
theorem ownFrom_fr {β : Type} {S : Nat → Prop} {B : Nat} {w0 : World} (hB : ∀ b, B ≤ b → S b) : OwnFrom B (fun (_ : β) W => Fr S w0 W) := fun _ _ _ _ hs hg hr => hs.grown hg (fun k hk => .inl (hB k (hr k hk).1))
theorem frK_b {S : Nat → Prop} {w : World} (hS : ∀ b, w.heap.size ≤ b → S b) (W : World) (l : Nat) (o o' : Obj) (hl : w.heap.size ≤ l) (_ : W.heap[l]? = some o) (_ : o.isCells = false) (_ : o.isWalk = false) : Fr S W (W.putObj l o') :=
  (Fr.refl S W).grown (grownBy_putObj' W l o') (fun k e => by cases e; exact .inl (hS l hl))
theorem blk_from {B b : Nat} {cs : List Value} {T : TypeId} {W W' : World} {row : Option Nat} (h : Blk W b cs T) (hg : W.grownBy W' row) (hr : ∀ r, row = some r → B ≤ r ∧ ∃ o : Obj, W.heap[r]? = some o ∧ o.isCells = false) : Blk W' b cs T :=
  h.grown hg (fun e => by
    obtain ⟨-, _, ho, hc⟩ := hr b e.symm
    unfold Blk at h
    rw [h] at ho
    cases ho
    cases hc)
theorem keeps_below {B : Nat} {W W' : World} (h : Below W.heap.size W W') : KeepsFrom B W W' := ⟨h.size, fun k _ _ hk _ => (h.block k (Array.getElem?_eq_some_iff.1 hk).1).trans hk⟩
/-- An append that is stored into a box that lies below the rows of the loop's own. -/
theorem app_fr {S : Nat → Prop} {W w1 : World} {n₀ B : Nat} {t e : TypeId} {size : Nat} {v v' : Value} {k m : Nat} {xs ys : List Value} {tmp : Obj} (hv : Boxed W B t v) (hte : t ≠ e) (hrow : W.ownsRow n₀ e size v k xs) (hSB : S B) (hSn : ∀ b, n₀ ≤ b → S b)
    (hown' : w1.ownsRow n₀ e size v' m ys) (hgrow : (W.alloc tmp).grownBy w1 v.ownBlock) :
    Boxed (w1.setCell ⟨B, 0, none⟩ v') B t v' ∧ (w1.setCell ⟨B, 0, none⟩ v').ownsRow n₀ e size v' m ys ∧ KeepsOthers W (w1.setCell ⟨B, 0, none⟩ v') ∧ Fr S W (w1.setCell ⟨B, 0, none⟩ v') := by
  have hv1 : Boxed w1 B t v := (hv.alloc tmp).kept hgrow (hv.not_row hte hrow)
  refine ⟨hv1.set v', hown'.kept (grownBy_setCell' w1 B v') (.inr (hv1.not_row hte hown').symm), ?_, ?_⟩
  · refine ((KeepsOthers.alloc W tmp).trans (KeepsOthers.of_grownBy hgrow fun j o ej hj => ?_)).trans (KeepsOthers.setCell _ _ _)
    rcases (hrow.alloc tmp).2 with ⟨rfl, _⟩ | ⟨g, cap, cur, rfl, _, hgb, _⟩
    · simp [Value.ownBlock] at ej
    · obtain rfl : g = j := by simpa [Value.ownBlock] using ej
      rw [hgb] at hj; cases hj; rfl
  · refine (((Fr.refl S W).alloc tmp).grown hgrow fun j ej => ?_).setCell (p := ⟨B, 0, none⟩) (.inl hSB) v'
    rcases hrow.2 with ⟨rfl, _⟩ | ⟨g, cap, cur, rfl, hb, _, _⟩
    · simp [Value.ownBlock] at ej
    · obtain rfl : g = j := by simpa [Value.ownBlock] using ej
      exact .inl (hSn _ hb)
set_option maxRecDepth 100000 in
set_option maxHeartbeats 40000000 in
theorem dead_any (E : Nat → Addr) (B : Nat) (L : List Pv) (names : List ByteArray) (v u : Value) (w : World) (h : PkI L v w) (hu : TxI names u w) (hE : Env codeGs B w E) (h5 : names.length ≤ 1000) :
    Calls Tryz.prog 18 #[v, u] w (DeP E L names w) := by
  obtain ⟨a, cap, rfl⟩ := h.shape
  obtain ⟨ua, uc, rfl⟩ := hu.shape
  have HC := hidd (closure_any E B L names _ _ w h hu hE h5)
  have HH := hidd (fun W (hW : Below w.heap.size w W) => h.ob hW)
  have hlow0 : ∀ x, a = some x → L.length ≠ 0 → x.block < w.heap.size := fun x hx h0 => by
    obtain ⟨_, _, he, _, _, _, h3⟩ := h.1
    simp only [Value.slice.injEq] at he
    rcases h3 with h3 | ⟨b, off, hb, hlt, _⟩
    · exact absurd h3 h0
    · rw [← he.1, hx] at hb
      simp only [Option.some.injEq] at hb
      subst hb
      exact hlt
  have HL0 := hidd hlow0
  clear h hu hE hlow0
  refine (callsIn_wide (n := 3)).1 ?_
  refine callsIn_of_wp_marks Tryz.func18 rfl trivial ?_ rfl
  simp only [Tryz.ntmps18, List.size_toArray, List.length_cons, List.length_nil, Nat.reduceAdd, Nat.reduceSub, Array.replicate_succ, Array.replicate_zero, List.push_toArray, List.append_toArray, List.nil_append, List.cons_append]
  gi_wp2_with fail
  refine ⟨trivial, (callsIn_wide.2 HC.out).mono ?_⟩
  rintro e w1 ⟨lv, la, lc, ev, rfl, hf, htx, hb1, hok, hno⟩
  by_cases hc : (closE L names).1 = 0
  rotate_left
  · obtain ⟨T, ad, rfl⟩ := hf.iface hc
    have HF := hidd (hf.ob ((Below.refl w1.heap.size w1).alloc (Nat.le_refl _) (.cells #[.slice la lv.length lc] 23)))
    have hBa := hb1.alloc hb1.size (.cells #[.slice la lv.length lc] 23)
    clear hf htx hb1 hok hno HC HH HL0
    gi_wp2_with fail
    refine ⟨.tuple #[.slice none 0 0, .iface T (.pointer (some ad))], ?_, ⟨[], none, 0, _, rfl, HF.out, txi_nil _, hBa, fun h => absurd h hc, fun _ => rfl⟩⟩
    simp [results, Tryz.f18, go_sem]
  have hlive := hok hc
  obtain ⟨hg, hin, hclo⟩ := hlive
  rw [hc] at hf
  obtain rfl := FaV.nil hf
  clear hf hok hno HC
  gi_wp2_with fail
  refine ⟨trivial, (bp_in Fence.wide (3 - 1) trivial rfl _ _ _ _).mono ?_⟩
  rintro e w' ⟨rfl, rfl⟩
  gi_wp2_with fail
  obtain ⟨i0, hi, hz0, hz1, hz2⟩ := info_parts infoTx3
  obtain ⟨N, hN⟩ : ∃ N, w1.heap.size = N := ⟨_, rfl⟩
  have bL := ((Boxed.new w1 23 (.slice la lv.length lc)).alloc (.cells #[.slice none 0 0] 23)).alloc (.cells #[.slice a L.length cap] 22)
  have bO := (Boxed.new (w1.alloc (.cells #[.slice la lv.length lc] 23)) 23 (.slice none 0 0)).alloc (.cells #[.slice a L.length cap] 22)
  have bA := Boxed.new ((w1.alloc (.cells #[.slice la lv.length lc] 23)).alloc (.cells #[.slice none 0 0] 23)) 22 (.slice a L.length cap)
  have hB0 := ((hb1.alloc hb1.size (.cells #[.slice la lv.length lc] 23)).alloc (by simp; have := hb1.size; omega) (.cells #[.slice none 0 0] 23)).alloc (by simp; have := hb1.size; omega) (.cells #[.slice a L.length cap] 22)
  have hB1 : Below w1.heap.size w1 (((w1.alloc (.cells #[.slice la lv.length lc] 23)).alloc (.cells #[.slice none 0 0] 23)).alloc (.cells #[.slice a L.length cap] 22)) := (((Below.refl _ w1).alloc (Nat.le_refl _) _).alloc (by simp) _).alloc (by simp; omega) _
  have hsz : Hid ((((w1.alloc (.cells #[.slice la lv.length lc] 23)).alloc (.cells #[.slice none 0 0] 23)).alloc (.cells #[.slice a L.length cap] 22)).heap.size = w1.heap.size + 3) := hidd (by simp)
  simp only [World.size_alloc] at bL bO bA
  have htx0 := htx.ob hB1
  have hwN := hb1.size
  generalize ((w1.alloc (.cells #[.slice la lv.length lc] 23)).alloc (.cells #[.slice none 0 0] 23)).alloc (.cells #[.slice a L.length cap] 22) = W0 at *
  have hlive : ∀ x, la = some x → lv.length ≠ 0 → x.block < w1.heap.size := fun x hx h0 => by
    obtain ⟨_, _, he, _, _, _, h3⟩ := htx.1
    simp only [Value.slice.injEq] at he
    rcases h3 with h3 | ⟨b, off, hb, hlt, _⟩
    · exact absurd h3 h0
    · rw [← he.1, hx] at hb
      simp only [Option.some.injEq] at hb
      subst hb
      exact hlt
  rw [hN] at bL bO bA hsz hwN hlive ⊢
  have HI0 := hidd (HH.out W0 hB0)
  have hBn := hb1
  clear htx hb1 hB1 hN
  have hsz0 := hsz.out
  refine wpIn_rangeFunc_ownH (n := 3) rfl (by omega) (gf := 49) (lb := #[.pointer (some ⟨N + 1 + 1, 0, none⟩)]) rfl trivial (enters_of Tryz.func49 (by kernel_rfl) rfl)
    (bp_stops Fence.wide (3 - 1) trivial rfl (by omega) (N + 1 + 1) a cap L W0 (fun b => b = N + 1 ∨ N + 3 ≤ b) (by omega) bA.cell HI0.out.1 (fun h0 x hx => by have := HL0.out x hx h0; omega))
    (fun h k => h.trans k) (frK_b (fun b hb => .inr (by omega))) (Below.refl _ _) (fun _ => rfl)
    (fun pre W => (∃ v, Boxed W (N + 1) 23 v ∧ W.ownsRow (N + 3) 9 1 v (fP lv pre).length (tcells (fP lv pre)) ∧ True) ∧ Fr (fun b => b = N + 1 ∨ N + 3 ≤ b) W0 W)
    (fun _ _ _ => False)
    (OwnFrom.and ((holdsRow_own (N + 3) (N + 1) 23 9 1 (fun pre => (fP lv pre).length) (fun pre => tcells (fP lv pre)) (fun _ _ => True)).from _) (ownFrom_fr (fun b hb => .inr (by omega))))
    (fun c s A B row hs _ _ => hs.elim)
    ⟨⟨_, bO, ⟨rfl, .inl ⟨rfl, rfl⟩⟩, trivial⟩, Fr.refl _ _⟩
    (fun x a' W => ∃ Bx, N + 3 ≤ Bx ∧ Blk W Bx (pkcell x.2) 49 ∧ a' = { tmps := #[.slice a L.length cap, .slice ua names.length uc, undef, undef, .slice none 0 0, .nilIface, .pointer (some ⟨N, 0, none⟩), .nilIface, .pointer (some ⟨N + 1, 0, none⟩), undef, .pointer (some ⟨Bx, 0, none⟩), .tuple #[.slice la lv.length lc, .nilIface], .slice a L.length cap, .slice ua names.length uc, .tuple #[.slice la lv.length lc, .nilIface], .slice la lv.length lc, .nilIface, .nilIface, .bool false, undef, .slice a L.length cap, .func (.func 49) #[] #[.pointer (some ⟨N + 1 + 1, 0, none⟩)], .int .i64 (x.1 : Int), .agg #[.string x.2.name, .slice x.2.ra x.2.refs.length x.2.rc, .string x.2.k, .string x.2.d, .bool x.2.e, .slice x.2.ta x.2.tn x.2.tc], undef, undef, undef, undef, undef, undef, undef, undef, undef, undef, undef], defers := [] })
    (fun x a' _ X Y row hs hg hr => by obtain ⟨Bx, h1, h2, h3⟩ := hs; exact ⟨Bx, h1, blk_from h2 hg hr, h3⟩)
    ?assign ?body ?done ?stop
  case assign =>
    rintro l pre ⟨xi, nm, ra, rc, rs, kk, dd, ee, ta, tn, tc⟩ W K ⟨⟨v, hbx, hrow, -⟩, hfr⟩ hK
    dsimp only [bpEnc]
    have hWs := hfr.size
    gi_wp2
    refine hK _ _ ((KeepsOthers.alloc _ _).from _) ((Fr.refl _ W).alloc _) ⟨⟨v, hbx.alloc _, hrow.alloc _, trivial⟩, hfr.alloc _⟩ ⟨W.heap.size, by omega, Blk.new W _ _, rfl⟩
  case body =>
    rintro l pre ⟨xi, nm, ra, rc, rs, kk, dd, ee, ta, tn, tc⟩ a' W hl ⟨r', hr'⟩ ⟨⟨v, hbx, hrow, -⟩, hfr⟩ ⟨Bx, hBx, hblk, rfl⟩ hlt
    have htW : TxI lv (.slice la lv.length lc) W := by
      refine ⟨?_, htx0.2⟩
      by_cases h0 : lv.length = 0
      · have hl0 : lv = [] := List.eq_nil_of_length_eq_zero h0
        subst hl0
        obtain ⟨_, _, he, q1, q2, q3, _⟩ := htx0.1
        exact ⟨_, _, he, q1, q2, q3, .inl rfl⟩
      · refine htx0.1.fr hfr (fun k hk => ?_)
        cases la with
        | none => simp [Value.ownBlock] at hk
        | some ad =>
          simp only [Value.ownBlock, Option.some.injEq] at hk
          have := hlive ad rfl h0
          omega
    have hWs := hfr.size
    have bL1 : Boxed W N 23 (.slice la lv.length lc) := hfr.heap bL (by omega)
    have cL := bL1.cell
    have hsn := fP_snoc lv pre (xi, ⟨nm, ra, rc, rs, kk, dd, ee, ta, tn, tc⟩)
    have c0 := hblk.cell (i := 0) rfl
    have HCT := hidd (contains_txt lv (.slice la lv.length lc) nm W htW)
    simp only at hsn
    cases hi2 : inB nm lv
    · rw [hi2] at hsn HCT
      rw [if_neg (by simp)] at hsn
      have HSN := hidd hsn
      have hlen : (fP lv pre).length ≤ pre.length := by unfold fP; exact Nat.le_trans (List.length_filter_le _ _) (by simp)
      have hL40 := hg.few
      simp only [pnL, List.length_map] at hL40
      clear hsn hi2 htW
      gi_wp2_with fail
      refine ⟨trivial, (CallsIn.inRound l (callsIn_wide.2 HCT.out)).mono ?_⟩
      rintro e w5 ⟨rfl, hb5⟩
      have hbx5 : Boxed w5 (N + 1) 23 v := (hb5.block _ hbx.lt).trans hbx
      have hrow5 : w5.ownsRow (N + 3) 9 1 v (fP lv pre).length (tcells (fP lv pre)) := (Fr.ob (S := fun _ => False) hb5).owns hrow (fun _ _ h => h)
      have hblk5 := hblk.below hb5 hblk.lt
      have cO := hbx5.cell
      have c0 := hblk5.cell (i := 0) rfl
      have hz5 := hb5.size
      clear cL
      gi_wp2_with (gi_at_builtin; refine wpListIn_append_own _ rfl _ _ 23 rfl (N + 3) 9 i0 (.string ⟨#[]⟩) 1 16 Tryz.underlying23 hi hz0 hz1 hz2 rfl (by decide) _ _ _ rfl (hrow5.alloc _) ⟨w5.heap.size, 0, none⟩ 1 1 [.string nm] rfl rfl (cell_one_new _ _ _) (by simp [Value.oneCell']) (by unfold maxLen; omega) (by omega) (by simp; omega) ?_; intro v' w7 hown' hgrow _; obtain ⟨g7, k7, rfl⟩ := ownsRow_succ hown'; have hv7 : Boxed w7 (N + 1) 23 v := (hbx5.alloc _).kept hgrow (hbx5.not_row (by decide) hrow5); have f7 := hv7.frozen; have c7 := hv7.cell; have hg7 : (w5.alloc (.cells #[.string nm] 9)).grownBy w7 v.ownBlock := hgrow; clear hgrow)
      obtain ⟨q1, q2, q3, q4⟩ := app_fr (S := fun b => b = N + 1 ∨ N + 3 ≤ b) hbx5 (by decide) hrow5 (.inl rfl) (fun b hb => .inr hb) hown' hg7
      refine ⟨(keeps_below hb5).trans (q3.from _), (Fr.ob hb5).trans q4, ⟨_, q1, ?_, trivial⟩, hfr.trans ((Fr.ob hb5).trans q4)⟩
      rw [HSN.out, List.length_append]
      unfold tcells at q2 ⊢
      rw [List.map_append]
      exact q2
    · rw [hi2] at hsn HCT
      rw [if_pos rfl, List.append_nil] at hsn
      have HSN := hidd hsn
      clear hsn hi2 htW
      gi_wp2_with fail
      refine ⟨trivial, (CallsIn.inRound l (callsIn_wide.2 HCT.out)).mono ?_⟩
      rintro e w5 ⟨rfl, hb5⟩
      gi_wp2_with fail
      refine ⟨keeps_below hb5, Fr.ob hb5, ⟨v, (hb5.block _ hbx.lt).trans hbx, ?_, trivial⟩, hfr.trans (Fr.ob hb5)⟩
      rw [HSN.out]
      exact (Fr.ob (S := fun _ => False) hb5).owns hrow (fun _ _ h => h)
  case done =>
    rintro D ys W hD rfl ⟨⟨v, hbx, hrow, -⟩, hfr⟩ hK
    rw [fP_all] at hrow
    have hs := Sl.of_owns hrow
    obtain ⟨va, vc, rfl, -⟩ := id hs
    have cO := hbx.cell
    have hBW : Below w.heap.size w W := hB0.trans (hfr.below (by omega) (fun b e => by omega))
    gi_wp2
    refine ⟨by simp, .inl ⟨_, _, rfl, run_takeDeferred hK, ?_⟩⟩
    refine ⟨.tuple #[.slice va (deadOf (pnL L) lv).length vc, .nilIface], ?_, ?_⟩
    · simp [results, Tryz.f18, go_sem]
    have hBD := hBW.trans (belowK_b (w := w) (Nat.le_refl _) W D _ (.deferred none) (by omega) hK rfl rfl)
    have hrD := ownsRow_putObj hrow (.deferred none) hK rfl
    refine ⟨deadOf (pnL L) lv, va, vc, .nilIface, rfl, by rw [hc]; exact .inl ⟨rfl, rfl⟩, ⟨Sl.of_owns hrD, ?_⟩, hBD, fun _ => ⟨hg, hin, lv, hclo, rfl⟩, fun h => absurd hc h⟩
    intro s hs2
    unfold deadOf at hs2
    have hs3 := (List.mem_filter.1 hs2).1
    rw [pnL_names, List.mem_reverse] at hs3
    unfold nmL at hs3
    obtain ⟨p, hp, rfl⟩ := List.mem_map.1 hs3
    exact (HI0.out.2 p hp).nm
  case stop =>
    rintro D c pre W hD _ hf
    exact hf.elim
end Go.Proofs.YtlcabkhalockpaaGreatDoor
