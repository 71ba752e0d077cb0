/- The contracts of tree.Each, over the function values of Count, Size and Files. Condition: as stated. -/
import Derived.Test.YthnlaigabefidaaGreatDoorTrF
namespace Go.Proofs.YthnlaigabefidaaGreatDoor
open Go.RowKit Go.Shelf

def pathOf (p : ByteArray) : ByteArray := Lib.maxS p ⟨#[47]⟩
def listed {α : Type} (t : Tr α) : List (It α) := if treeE t = 0 then pre ⟨#[]⟩ 0 t else []
mutual
theorem pre_path {α : Type} (p : ByteArray) (d : Nat) : ∀ t : Tr α, (∀ y ∈ pre p d t, ownE y.n = 0) → ∀ x ∈ pre p d t, x.path.size + 13 * d ≤ p.size + 13 * x.deep
  | .mk k da e v ks => fun h x hx => by
    rw [pre] at h hx
    have h0 := h _ (List.mem_cons_self ..)
    have hn : ∀ k ∈ ks, k.1.size ≤ 12 := fun y hy => by
      unfold ownE at h0
      repeat (split at h0; omega)
      rename_i h5 _
      have h6 : (ks.map (·.1)).all isName = true := by
        cases hq : (ks.map (·.1)).all isName with
        | true => rfl
        | false => exact absurd hq h5
      rw [List.all_map, List.all_eq_true] at h6
      have h7 : isName y.1 = true := h6 y hy
      unfold isName at h7
      simp only [Bool.and_eq_true, decide_eq_true_eq] at h7
      exact h7.1.1.2
    rcases List.mem_cons.1 hx with rfl | hx
    · simp
    · have := pres_path p (d + 1) ks hn (fun y hy => h y (List.mem_cons_of_mem _ hy)) x hx
      omega
theorem pres_path {α : Type} (p : ByteArray) (d : Nat) : ∀ ks : List (ByteArray × Tr α), (∀ k ∈ ks, k.1.size ≤ 12) → (∀ y ∈ pres p d ks, ownE y.n = 0) → ∀ x ∈ pres p d ks, x.path.size + 13 * d ≤ p.size + 13 + 13 * x.deep
  | [] => fun _ _ x hx => by simp [pres] at hx
  | (n, t) :: r => fun hk h x hx => by
    rw [pres] at h hx
    have hn := hk (n, t) (by simp)
    have hss : (sub p n).size = p.size + 1 + n.size := by unfold sub; rw [ByteArray.size_append, ByteArray.size_append]; rfl
    rcases List.mem_append.1 hx with hx | hx
    · have := pre_path (sub p n) d t (fun y hy => h y (List.mem_append_left _ hy)) x hx
      simp only at hn
      omega
    · exact pres_path p d r (fun k hk' => hk k (by simp [hk'])) (fun y hy => h y (List.mem_append_right _ hy)) x hx
end
theorem own_data {α : Type} {t : Tr α} (h : ownE t = 0) : t.data.size ≤ 2000 := by
  unfold ownE at h
  split at h; omega
  split at h; omega
  split at h; omega
  rename_i h1
  omega
/-- What holds of each node of a tree that is right. -/
def Fine (x : It Value) : Prop := x.path.size ≤ 1000 ∧ x.n.data.size ≤ 2000
theorem fine_of {t : Lt} (h : treeE t = 0) : (∀ x ∈ pre ⟨#[]⟩ 0 t, Fine x) ∧ t.sz ≤ 200 := by
  obtain ⟨h1, h2⟩ := scan_zero h
  refine ⟨fun x hx => ?_, ?_⟩
  · have hp := pre_path ⟨#[]⟩ 0 t (fun y hy => (h1 y hy).2) x hx
    have := (h1 x hx).1
    have hz : (⟨#[]⟩ : ByteArray).size = 0 := rfl
    exact ⟨by omega, own_data (h1 x hx).2⟩
  · have := h2 (by rw [pre_cons]; simp)
    rw [pre_len] at this; omega

/-- What Each leaves. -/
def EachQ (J : (Nat → Prop) → List (It Value) → World → Prop) (F : Nat → Prop) (l : List (It Value)) (w : World) (e : Ending) (w' : World) : Prop :=
  e = .returned (.tuple #[]) ∧ ∃ F', J F' l w' ∧ Fr F w w' ∧ ∀ b, F' b → F b ∨ w.heap.size ≤ b

/-- What tree.Count's function keeps. -/
structure WalkCount (c : Nat) (J : (Nat → Prop) → List (It Value) → World → Prop) : Prop where
  own : ∀ F l W, J F l W → ∀ b, F b → b < W.heap.size
  later : ∀ F l W W', J F l W → Below W.heap.size W W' → J F l W'
  step : ∀ F l (x : It Value) W, J F l W → l.length < 1000 → Fine x → x.n.Ok W → Calls Tryz.prog 56 #[nval x.n, .string (pathOf x.path), .pointer (some ⟨c, 0, none⟩)] W fun e W' =>
    e = .returned (.tuple #[]) ∧ ∃ F', J F' (l ++ [x]) W' ∧ Fr F W W' ∧ ∀ b, F' b → F b ∨ W.heap.size ≤ b
/-- The same, beside the box of the function value. -/
def BoxCount (c q : Nat) (J : (Nat → Prop) → List (It Value) → World → Prop) (F : Nat → Prop) (l : List (It Value)) (W : World) : Prop :=
  J F l W ∧ W.cell? ⟨q, 0, none⟩ = some (.func (.func 56) #[] #[.pointer (some ⟨c, 0, none⟩)]) ∧ ¬ F q ∧ q < W.heap.size

set_option maxRecDepth 100000 in
theorem walkerCount (c q : Nat) (J : (Nat → Prop) → List (It Value) → World → Prop) (hW : WalkCount c J) : Walker q Fine (BoxCount c q J) where
  own := fun F l W h => hW.own F l W h.1
  later := fun F l W W' h hb => ⟨hW.later F l W W' h.1 hb, (hb.cell (p := ⟨q, 0, none⟩) h.2.2.2).trans h.2.1, h.2.2.1, Nat.lt_of_lt_of_le h.2.2.2 hb.size⟩
  step := fun F l x W h hl hp hx => by
    obtain ⟨h1, h2, h3, h4⟩ := h
    obtain ⟨a, cap, hv⟩ := hx.shape
    have hB0 : Below W.heap.size W (W.alloc (.cells #[.string x.n.kind, .string x.n.data, .bool x.n.exec, .slice a x.n.kids.length cap] 24)) := (Below.refl _ _).alloc (Nat.le_refl _) _
    have hz : (W.alloc (.cells #[.string x.n.kind, .string x.n.data, .bool x.n.exec, .slice a x.n.kids.length cap] 24)).heap.size = W.heap.size + 1 := by simp
    have hc := (hB0.cell (p := ⟨q, 0, none⟩) h4).trans h2
    have hC := hW.step F l x _ (hW.later _ _ _ _ h1 hB0) hl hp (hx.ob hB0)
    have hmx : ∀ (w : World) (ts : Array TypeId) (t : TypeId), (Builtin.max_ ts t #[.string x.path, .string ⟨#[47]⟩]).run Tryz.prog w = .ok (.string (pathOf x.path)) w := fun w ts t => Lib.run_max_strs w ts t _ _
    unfold nval at hC ⊢
    rw [hv] at hC ⊢
    have HC := hidd hC
    generalize pathOf x.path = px at *
    clear hC hv hx h1
    go_enter Tryz.func58, Tryz.ntmps58
    go_wp2_with fail
    refine HC.out.mono ?_
    rintro e w4 ⟨rfl, F4, hJ4, hf4, hF4⟩
    have HF : Hid (∃ F', BoxCount c q J F' (l ++ [x]) w4 ∧ Fr F W w4 ∧ ∀ b, F' b → F b ∨ W.heap.size ≤ b) := hidd ⟨F4, ⟨hJ4, hf4.cell hc h3, fun h => by rcases hF4 q h with h | h; exact h3 h; omega, by have := hf4.size; omega⟩, (Fr.ob hB0).trans hf4, fun b hb => (hF4 b hb).elim .inl (fun h => .inr (by omega))⟩
    clear hJ4 hf4 hF4 hc
    go_wp2_with fail
    go_end0
    exact ⟨rfl, HF.out⟩


set_option maxRecDepth 100000 in
set_option maxHeartbeats 4000000 in
theorem eachCount (c : Nat) (J : (Nat → Prop) → List (It Value) → World → Prop) (hW : WalkCount c J) (E : Nat → Addr) (B : Nat) (t : Lt) (F : Nat → Prop) (w : World) (ht : t.Ok w) (hin : t.In (fun b => ¬ F b)) (hE : Env codeGs B w E) (hJ : J F [] w) :
    Calls Tryz.prog 30 #[nval t, .func (.func 56) #[] #[.pointer (some ⟨c, 0, none⟩)]] w (EachQ J F (listed t) w) := by
  obtain ⟨a, cap, hv⟩ := ht.shape
  have hB2 : Below w.heap.size w ((w.alloc (.cells #[.string t.kind, .string t.data, .bool t.exec, .slice a t.kids.length cap] 24)).alloc (.cells #[.func (.func 56) #[] #[.pointer (some ⟨c, 0, none⟩)]] 62)) := ((Below.refl _ _).alloc (Nat.le_refl _) _).alloc (by simp) _
  have hb1 := (Blk.new w [.string t.kind, .string t.data, .bool t.exec, .slice a t.kids.length cap] 24).alloc (.cells #[.func (.func 56) #[] #[.pointer (some ⟨c, 0, none⟩)]] 62)
  have hb2 := Blk.new (w.alloc (.cells #[.string t.kind, .string t.data, .bool t.exec, .slice a t.kids.length cap] 24)) [.func (.func 56) #[] #[.pointer (some ⟨c, 0, none⟩)]] 62
  rw [show (w.alloc (.cells #[.string t.kind, .string t.data, .bool t.exec, .slice a t.kids.length cap] 24)).heap.size = w.heap.size + 1 by simp] at hb2
  have hC := check_any E B t _ (ht.ob hB2) (hE.ob hB2)
  unfold nval at hC ⊢
  rw [hv] at hC ⊢
  by_cases h0 : treeE t = 0
  · have hl : listed t = pre ⟨#[]⟩ 0 t := if_pos h0
    obtain ⟨f1, f2⟩ := fine_of h0
    rw [h0, evc_zero] at hC
    rw [hl]
    have HC := hidd hC
    have HV := hidd hv
    clear hC hl hv h0
    go_enter Tryz.func30, Tryz.ntmps30
    go_wp2_with fail
    refine HC.out.mono ?_
    rintro e w2 ⟨rfl, hb3⟩
    have hB3 := hB2.trans (hb3.mono hB2.size)
    have hk1 := hb1.below hb3 hb1.lt
    have hk2 := hb2.below hb3 hb2.lt
    have hJ3 := hW.later _ _ _ _ hJ hB3
    have x0 := hk1.cell (i := 0) rfl
    have x1 := hk1.cell (i := 1) rfl
    have x2 := hk1.cell (i := 2) rfl
    have x3 := hk1.cell (i := 3) rfl
    have hbox : BoxCount c (w.heap.size + 1) J F [] w2 := ⟨hJ3, hk2.cell (i := 0) rfl, fun h => by have := hW.own _ _ _ hJ _ h; omega, hk2.lt⟩
    have hCC := each_any (w.heap.size + 1) Fine (fun x hx => by have := hx.1; omega) (BoxCount c (w.heap.size + 1) J) (walkerCount c (w.heap.size + 1) J hW) t.sz t ⟨#[]⟩ 0 F [] w2 (Nat.le_refl _) (ht.ob hB3) hin hbox (by simp; omega) f1
    unfold nval at hCC
    rw [HV.out] at hCC
    have HCC := hidd hCC
    clear hCC hb1 hb2 hB2 hk1 hk2 hbox hJ3 hJ hb3 ht hE
    go_wp2_with fail
    refine HCC.out.mono ?_
    rintro e w4 ⟨rfl, F4, hJ4, hf4, hF4⟩
    have HF : Hid (EachQ J F (pre ⟨#[]⟩ 0 t) w (.returned (.tuple #[])) w4) := hidd ⟨rfl, F4, by simpa using hJ4.1, (Fr.ob hB3).trans hf4, fun b hb => (hF4 b hb).elim .inl (fun h => .inr (by have := hB3.size; omega))⟩
    clear hJ4 hf4 hF4 x0 x1 x2 x3
    go_wp2_with fail
    go_end0
    exact HF.out
  · have hl : listed t = [] := if_neg h0
    rw [evc_ne h0] at hC
    rw [hl]
    have HC := hidd hC
    clear hC hl hv h0
    go_enter Tryz.func30, Tryz.ntmps30
    go_wp2_with fail
    refine HC.out.mono ?_
    rintro e w2 ⟨rfl, hb3⟩
    have hB3 := hB2.trans (hb3.mono hB2.size)
    have HF : Hid (EachQ J F [] w (.returned (.tuple #[])) w2) := hidd ⟨rfl, F, hW.later _ _ _ _ hJ hB3, Fr.ob hB3, fun b hb => .inl hb⟩
    clear hb3 hB2 hb1 hb2 hJ ht hE
    go_wp2_with fail
    go_end0
    exact HF.out
/-- What tree.Size's function keeps. -/
structure WalkSize (c : Nat) (J : (Nat → Prop) → List (It Value) → World → Prop) : Prop where
  own : ∀ F l W, J F l W → ∀ b, F b → b < W.heap.size
  later : ∀ F l W W', J F l W → Below W.heap.size W W' → J F l W'
  step : ∀ F l (x : It Value) W, J F l W → l.length < 1000 → Fine x → x.n.Ok W → Calls Tryz.prog 36 #[nval x.n, .string (pathOf x.path), .pointer (some ⟨c, 0, none⟩)] W fun e W' =>
    e = .returned (.tuple #[]) ∧ ∃ F', J F' (l ++ [x]) W' ∧ Fr F W W' ∧ ∀ b, F' b → F b ∨ W.heap.size ≤ b
/-- The same, beside the box of the function value. -/
def BoxSize (c q : Nat) (J : (Nat → Prop) → List (It Value) → World → Prop) (F : Nat → Prop) (l : List (It Value)) (W : World) : Prop :=
  J F l W ∧ W.cell? ⟨q, 0, none⟩ = some (.func (.func 36) #[] #[.pointer (some ⟨c, 0, none⟩)]) ∧ ¬ F q ∧ q < W.heap.size

set_option maxRecDepth 100000 in
theorem walkerSize (c q : Nat) (J : (Nat → Prop) → List (It Value) → World → Prop) (hW : WalkSize c J) : Walker q Fine (BoxSize c q J) where
  own := fun F l W h => hW.own F l W h.1
  later := fun F l W W' h hb => ⟨hW.later F l W W' h.1 hb, (hb.cell (p := ⟨q, 0, none⟩) h.2.2.2).trans h.2.1, h.2.2.1, Nat.lt_of_lt_of_le h.2.2.2 hb.size⟩
  step := fun F l x W h hl hp hx => by
    obtain ⟨h1, h2, h3, h4⟩ := h
    obtain ⟨a, cap, hv⟩ := hx.shape
    have hB0 : Below W.heap.size W (W.alloc (.cells #[.string x.n.kind, .string x.n.data, .bool x.n.exec, .slice a x.n.kids.length cap] 24)) := (Below.refl _ _).alloc (Nat.le_refl _) _
    have hz : (W.alloc (.cells #[.string x.n.kind, .string x.n.data, .bool x.n.exec, .slice a x.n.kids.length cap] 24)).heap.size = W.heap.size + 1 := by simp
    have hc := (hB0.cell (p := ⟨q, 0, none⟩) h4).trans h2
    have hC := hW.step F l x _ (hW.later _ _ _ _ h1 hB0) hl hp (hx.ob hB0)
    have hmx : ∀ (w : World) (ts : Array TypeId) (t : TypeId), (Builtin.max_ ts t #[.string x.path, .string ⟨#[47]⟩]).run Tryz.prog w = .ok (.string (pathOf x.path)) w := fun w ts t => Lib.run_max_strs w ts t _ _
    unfold nval at hC ⊢
    rw [hv] at hC ⊢
    have HC := hidd hC
    generalize pathOf x.path = px at *
    clear hC hv hx h1
    go_enter Tryz.func58, Tryz.ntmps58
    go_wp2_with fail
    refine HC.out.mono ?_
    rintro e w4 ⟨rfl, F4, hJ4, hf4, hF4⟩
    have HF : Hid (∃ F', BoxSize c q J F' (l ++ [x]) w4 ∧ Fr F W w4 ∧ ∀ b, F' b → F b ∨ W.heap.size ≤ b) := hidd ⟨F4, ⟨hJ4, hf4.cell hc h3, fun h => by rcases hF4 q h with h | h; exact h3 h; omega, by have := hf4.size; omega⟩, (Fr.ob hB0).trans hf4, fun b hb => (hF4 b hb).elim .inl (fun h => .inr (by omega))⟩
    clear hJ4 hf4 hF4 hc
    go_wp2_with fail
    go_end0
    exact ⟨rfl, HF.out⟩


set_option maxRecDepth 100000 in
set_option maxHeartbeats 4000000 in
theorem eachSize (c : Nat) (J : (Nat → Prop) → List (It Value) → World → Prop) (hW : WalkSize c J) (E : Nat → Addr) (B : Nat) (t : Lt) (F : Nat → Prop) (w : World) (ht : t.Ok w) (hin : t.In (fun b => ¬ F b)) (hE : Env codeGs B w E) (hJ : J F [] w) :
    Calls Tryz.prog 30 #[nval t, .func (.func 36) #[] #[.pointer (some ⟨c, 0, none⟩)]] w (EachQ J F (listed t) w) := by
  obtain ⟨a, cap, hv⟩ := ht.shape
  have hB2 : Below w.heap.size w ((w.alloc (.cells #[.string t.kind, .string t.data, .bool t.exec, .slice a t.kids.length cap] 24)).alloc (.cells #[.func (.func 36) #[] #[.pointer (some ⟨c, 0, none⟩)]] 62)) := ((Below.refl _ _).alloc (Nat.le_refl _) _).alloc (by simp) _
  have hb1 := (Blk.new w [.string t.kind, .string t.data, .bool t.exec, .slice a t.kids.length cap] 24).alloc (.cells #[.func (.func 36) #[] #[.pointer (some ⟨c, 0, none⟩)]] 62)
  have hb2 := Blk.new (w.alloc (.cells #[.string t.kind, .string t.data, .bool t.exec, .slice a t.kids.length cap] 24)) [.func (.func 36) #[] #[.pointer (some ⟨c, 0, none⟩)]] 62
  rw [show (w.alloc (.cells #[.string t.kind, .string t.data, .bool t.exec, .slice a t.kids.length cap] 24)).heap.size = w.heap.size + 1 by simp] at hb2
  have hC := check_any E B t _ (ht.ob hB2) (hE.ob hB2)
  unfold nval at hC ⊢
  rw [hv] at hC ⊢
  by_cases h0 : treeE t = 0
  · have hl : listed t = pre ⟨#[]⟩ 0 t := if_pos h0
    obtain ⟨f1, f2⟩ := fine_of h0
    rw [h0, evc_zero] at hC
    rw [hl]
    have HC := hidd hC
    have HV := hidd hv
    clear hC hl hv h0
    go_enter Tryz.func30, Tryz.ntmps30
    go_wp2_with fail
    refine HC.out.mono ?_
    rintro e w2 ⟨rfl, hb3⟩
    have hB3 := hB2.trans (hb3.mono hB2.size)
    have hk1 := hb1.below hb3 hb1.lt
    have hk2 := hb2.below hb3 hb2.lt
    have hJ3 := hW.later _ _ _ _ hJ hB3
    have x0 := hk1.cell (i := 0) rfl
    have x1 := hk1.cell (i := 1) rfl
    have x2 := hk1.cell (i := 2) rfl
    have x3 := hk1.cell (i := 3) rfl
    have hbox : BoxSize c (w.heap.size + 1) J F [] w2 := ⟨hJ3, hk2.cell (i := 0) rfl, fun h => by have := hW.own _ _ _ hJ _ h; omega, hk2.lt⟩
    have hCC := each_any (w.heap.size + 1) Fine (fun x hx => by have := hx.1; omega) (BoxSize c (w.heap.size + 1) J) (walkerSize c (w.heap.size + 1) J hW) t.sz t ⟨#[]⟩ 0 F [] w2 (Nat.le_refl _) (ht.ob hB3) hin hbox (by simp; omega) f1
    unfold nval at hCC
    rw [HV.out] at hCC
    have HCC := hidd hCC
    clear hCC hb1 hb2 hB2 hk1 hk2 hbox hJ3 hJ hb3 ht hE
    go_wp2_with fail
    refine HCC.out.mono ?_
    rintro e w4 ⟨rfl, F4, hJ4, hf4, hF4⟩
    have HF : Hid (EachQ J F (pre ⟨#[]⟩ 0 t) w (.returned (.tuple #[])) w4) := hidd ⟨rfl, F4, by simpa using hJ4.1, (Fr.ob hB3).trans hf4, fun b hb => (hF4 b hb).elim .inl (fun h => .inr (by have := hB3.size; omega))⟩
    clear hJ4 hf4 hF4 x0 x1 x2 x3
    go_wp2_with fail
    go_end0
    exact HF.out
  · have hl : listed t = [] := if_neg h0
    rw [evc_ne h0] at hC
    rw [hl]
    have HC := hidd hC
    clear hC hl hv h0
    go_enter Tryz.func30, Tryz.ntmps30
    go_wp2_with fail
    refine HC.out.mono ?_
    rintro e w2 ⟨rfl, hb3⟩
    have hB3 := hB2.trans (hb3.mono hB2.size)
    have HF : Hid (EachQ J F [] w (.returned (.tuple #[])) w2) := hidd ⟨rfl, F, hW.later _ _ _ _ hJ hB3, Fr.ob hB3, fun b hb => .inl hb⟩
    clear hb3 hB2 hb1 hb2 hJ ht hE
    go_wp2_with fail
    go_end0
    exact HF.out
/-- What tree.Files's function keeps. -/
structure WalkFiles (c : Nat) (J : (Nat → Prop) → List (It Value) → World → Prop) : Prop where
  own : ∀ F l W, J F l W → ∀ b, F b → b < W.heap.size
  later : ∀ F l W W', J F l W → Below W.heap.size W W' → J F l W'
  step : ∀ F l (x : It Value) W, J F l W → l.length < 1000 → Fine x → x.n.Ok W → Calls Tryz.prog 31 #[nval x.n, .string (pathOf x.path), .pointer (some ⟨c, 0, none⟩)] W fun e W' =>
    e = .returned (.tuple #[]) ∧ ∃ F', J F' (l ++ [x]) W' ∧ Fr F W W' ∧ ∀ b, F' b → F b ∨ W.heap.size ≤ b
/-- The same, beside the box of the function value. -/
def BoxFiles (c q : Nat) (J : (Nat → Prop) → List (It Value) → World → Prop) (F : Nat → Prop) (l : List (It Value)) (W : World) : Prop :=
  J F l W ∧ W.cell? ⟨q, 0, none⟩ = some (.func (.func 31) #[] #[.pointer (some ⟨c, 0, none⟩)]) ∧ ¬ F q ∧ q < W.heap.size

set_option maxRecDepth 100000 in
theorem walkerFiles (c q : Nat) (J : (Nat → Prop) → List (It Value) → World → Prop) (hW : WalkFiles c J) : Walker q Fine (BoxFiles c q J) where
  own := fun F l W h => hW.own F l W h.1
  later := fun F l W W' h hb => ⟨hW.later F l W W' h.1 hb, (hb.cell (p := ⟨q, 0, none⟩) h.2.2.2).trans h.2.1, h.2.2.1, Nat.lt_of_lt_of_le h.2.2.2 hb.size⟩
  step := fun F l x W h hl hp hx => by
    obtain ⟨h1, h2, h3, h4⟩ := h
    obtain ⟨a, cap, hv⟩ := hx.shape
    have hB0 : Below W.heap.size W (W.alloc (.cells #[.string x.n.kind, .string x.n.data, .bool x.n.exec, .slice a x.n.kids.length cap] 24)) := (Below.refl _ _).alloc (Nat.le_refl _) _
    have hz : (W.alloc (.cells #[.string x.n.kind, .string x.n.data, .bool x.n.exec, .slice a x.n.kids.length cap] 24)).heap.size = W.heap.size + 1 := by simp
    have hc := (hB0.cell (p := ⟨q, 0, none⟩) h4).trans h2
    have hC := hW.step F l x _ (hW.later _ _ _ _ h1 hB0) hl hp (hx.ob hB0)
    have hmx : ∀ (w : World) (ts : Array TypeId) (t : TypeId), (Builtin.max_ ts t #[.string x.path, .string ⟨#[47]⟩]).run Tryz.prog w = .ok (.string (pathOf x.path)) w := fun w ts t => Lib.run_max_strs w ts t _ _
    unfold nval at hC ⊢
    rw [hv] at hC ⊢
    have HC := hidd hC
    generalize pathOf x.path = px at *
    clear hC hv hx h1
    go_enter Tryz.func58, Tryz.ntmps58
    go_wp2_with fail
    refine HC.out.mono ?_
    rintro e w4 ⟨rfl, F4, hJ4, hf4, hF4⟩
    have HF : Hid (∃ F', BoxFiles c q J F' (l ++ [x]) w4 ∧ Fr F W w4 ∧ ∀ b, F' b → F b ∨ W.heap.size ≤ b) := hidd ⟨F4, ⟨hJ4, hf4.cell hc h3, fun h => by rcases hF4 q h with h | h; exact h3 h; omega, by have := hf4.size; omega⟩, (Fr.ob hB0).trans hf4, fun b hb => (hF4 b hb).elim .inl (fun h => .inr (by omega))⟩
    clear hJ4 hf4 hF4 hc
    go_wp2_with fail
    go_end0
    exact ⟨rfl, HF.out⟩


set_option maxRecDepth 100000 in
set_option maxHeartbeats 4000000 in
theorem eachFiles (c : Nat) (J : (Nat → Prop) → List (It Value) → World → Prop) (hW : WalkFiles c J) (E : Nat → Addr) (B : Nat) (t : Lt) (F : Nat → Prop) (w : World) (ht : t.Ok w) (hin : t.In (fun b => ¬ F b)) (hE : Env codeGs B w E) (hJ : J F [] w) :
    Calls Tryz.prog 30 #[nval t, .func (.func 31) #[] #[.pointer (some ⟨c, 0, none⟩)]] w (EachQ J F (listed t) w) := by
  obtain ⟨a, cap, hv⟩ := ht.shape
  have hB2 : Below w.heap.size w ((w.alloc (.cells #[.string t.kind, .string t.data, .bool t.exec, .slice a t.kids.length cap] 24)).alloc (.cells #[.func (.func 31) #[] #[.pointer (some ⟨c, 0, none⟩)]] 62)) := ((Below.refl _ _).alloc (Nat.le_refl _) _).alloc (by simp) _
  have hb1 := (Blk.new w [.string t.kind, .string t.data, .bool t.exec, .slice a t.kids.length cap] 24).alloc (.cells #[.func (.func 31) #[] #[.pointer (some ⟨c, 0, none⟩)]] 62)
  have hb2 := Blk.new (w.alloc (.cells #[.string t.kind, .string t.data, .bool t.exec, .slice a t.kids.length cap] 24)) [.func (.func 31) #[] #[.pointer (some ⟨c, 0, none⟩)]] 62
  rw [show (w.alloc (.cells #[.string t.kind, .string t.data, .bool t.exec, .slice a t.kids.length cap] 24)).heap.size = w.heap.size + 1 by simp] at hb2
  have hC := check_any E B t _ (ht.ob hB2) (hE.ob hB2)
  unfold nval at hC ⊢
  rw [hv] at hC ⊢
  by_cases h0 : treeE t = 0
  · have hl : listed t = pre ⟨#[]⟩ 0 t := if_pos h0
    obtain ⟨f1, f2⟩ := fine_of h0
    rw [h0, evc_zero] at hC
    rw [hl]
    have HC := hidd hC
    have HV := hidd hv
    clear hC hl hv h0
    go_enter Tryz.func30, Tryz.ntmps30
    go_wp2_with fail
    refine HC.out.mono ?_
    rintro e w2 ⟨rfl, hb3⟩
    have hB3 := hB2.trans (hb3.mono hB2.size)
    have hk1 := hb1.below hb3 hb1.lt
    have hk2 := hb2.below hb3 hb2.lt
    have hJ3 := hW.later _ _ _ _ hJ hB3
    have x0 := hk1.cell (i := 0) rfl
    have x1 := hk1.cell (i := 1) rfl
    have x2 := hk1.cell (i := 2) rfl
    have x3 := hk1.cell (i := 3) rfl
    have hbox : BoxFiles c (w.heap.size + 1) J F [] w2 := ⟨hJ3, hk2.cell (i := 0) rfl, fun h => by have := hW.own _ _ _ hJ _ h; omega, hk2.lt⟩
    have hCC := each_any (w.heap.size + 1) Fine (fun x hx => by have := hx.1; omega) (BoxFiles c (w.heap.size + 1) J) (walkerFiles c (w.heap.size + 1) J hW) t.sz t ⟨#[]⟩ 0 F [] w2 (Nat.le_refl _) (ht.ob hB3) hin hbox (by simp; omega) f1
    unfold nval at hCC
    rw [HV.out] at hCC
    have HCC := hidd hCC
    clear hCC hb1 hb2 hB2 hk1 hk2 hbox hJ3 hJ hb3 ht hE
    go_wp2_with fail
    refine HCC.out.mono ?_
    rintro e w4 ⟨rfl, F4, hJ4, hf4, hF4⟩
    have HF : Hid (EachQ J F (pre ⟨#[]⟩ 0 t) w (.returned (.tuple #[])) w4) := hidd ⟨rfl, F4, by simpa using hJ4.1, (Fr.ob hB3).trans hf4, fun b hb => (hF4 b hb).elim .inl (fun h => .inr (by have := hB3.size; omega))⟩
    clear hJ4 hf4 hF4 x0 x1 x2 x3
    go_wp2_with fail
    go_end0
    exact HF.out
  · have hl : listed t = [] := if_neg h0
    rw [evc_ne h0] at hC
    rw [hl]
    have HC := hidd hC
    clear hC hl hv h0
    go_enter Tryz.func30, Tryz.ntmps30
    go_wp2_with fail
    refine HC.out.mono ?_
    rintro e w2 ⟨rfl, hb3⟩
    have hB3 := hB2.trans (hb3.mono hB2.size)
    have HF : Hid (EachQ J F [] w (.returned (.tuple #[])) w2) := hidd ⟨rfl, F, hW.later _ _ _ _ hJ hB3, Fr.ob hB3, fun b hb => .inl hb⟩
    clear hb3 hB2 hb1 hb2 hJ ht hE
    go_wp2_with fail
    go_end0
    exact HF.out
end Go.Proofs.YthnlaigabefidaaGreatDoor
