/- In plain words: what two trees differ in, applied to the first one, makes the second one; each change tells of what is not alike. Condition: the trees are well, and not too large. -/
import Derived.Test.YtoaedkinlnkkhaaDoorDfC
namespace Go.Proofs.YtoaedkinlnkkhaaDoor
open Go.RowKit Go.Shelf

/-- A change by names. -/
structure Cn where
  kind : ByteArray
  names : List ByteArray
  n : Nd
def Cn.up (x : ByteArray) (c : Cn) : Cn := ⟨c.kind, x :: c.names, c.n⟩
def toCh (l : List ByteArray) (c : Cn) : Ch Unit := ⟨c.kind, pathOf (jt (l ++ c.names)), c.n⟩
theorem pathOf_nil' : pathOf ⟨#[]⟩ = ⟨#[47]⟩ := by rfl
theorem pathOf_cons (n : ByteArray) (r : List ByteArray) : pathOf (jt (n :: r)) = jt (n :: r) := by
  have hst : Stroke (jt (n :: r)) := .inr ⟨n.data.toList ++ joined r, rfl⟩
  have hne : (jt (n :: r)).toList ≠ [] := by rw [Lib.toList_data]; intro e; cases e
  rw [path_fix hst, show fixP (jt (n :: r)) = jt (n :: r) from if_neg (by simpa using hne)]
theorem pathOf_snoc (l : List ByteArray) (n : ByteArray) : pathOf (jt (l ++ [n])) = sub (jt l) n := by
  rw [← jt_snoc]
  cases l with
  | nil => exact pathOf_cons _ _
  | cons a r => exact pathOf_cons _ _
/-- One change of a tree, by names. -/
inductive StN (t : Nd) : Cn → Nd → Prop where
  | add {l : List ByteArray} {x y : Nd} (h : atT t l = none) (hw : withT x l t = some y) : StN t ⟨kAdd, l, x⟩ y
  | edit {l : List ByteArray} {x y z : Nd} (h : atT t l = some z) (hw : withT x l t = some y) : StN t ⟨kEdit, l, x⟩ y
  | drop {l : List ByteArray} {z : Nd} (hl : l ≠ []) (h : atT t l = some z) : StN t ⟨kDrop, l, NdZ⟩ (withoutT l t)
/-- Changes one behind the other; each tree between keeps P. -/
inductive Run (P : Nd → Prop) : Nd → List Cn → Nd → Prop where
  | nil (t : Nd) : Run P t [] t
  | cons {t u y : Nd} {c : Cn} {L : List Cn} (h : StN t c u) (hp : P u) (hr : Run P u L y) : Run P t (c :: L) y
theorem Run.one {P : Nd → Prop} {t u : Nd} {c : Cn} (h : StN t c u) (hp : P u) : Run P t [c] u := .cons h hp (.nil u)
theorem Run.app {P : Nd → Prop} {t u y : Nd} {L M : List Cn} (h : Run P t L u) (k : Run P u M y) : Run P t (L ++ M) y := by
  induction h with
  | nil _ => exact k
  | cons h1 h2 _ ih => exact .cons h1 h2 (ih k)
/-- What a change tells of two trees. -/
structure Good (d : Nat) (a b : Nd) (c : Cn) : Prop where
  names : c.names.all isName = true
  deep : d + c.names.length ≤ 8
  ina : (∃ p, atT a c.names = some p) ↔ c.kind ≠ kAdd
  inb : (∃ q, atT b c.names = some q) ↔ c.kind ≠ kDrop
  ne : ∀ p q, atT a c.names = some p → atT b c.names = some q → p ≠ q

abbrev dirN (ks : List (ByteArray × Nd)) : Nd := .mk kDir ⟨#[]⟩ false () ks
section
variable {ds xs : List (ByteArray × Nd)} {n : ByteArray} {t u x : Nd}
theorem low_front (h : ∀ k ∈ ds, cmpB k.1 n < 0) (h2 : ∀ k ∈ xs, ¬ cmpB k.1 n < 0) : lowK (ds ++ xs) n = ds ∧ highK (ds ++ xs) n = xs := by
  unfold lowK highK
  have h1 : ∀ k ∈ ds, (decide (cmpB k.1 n < 0)) = true := fun k hk => decide_eq_true (h k hk)
  rw [List.takeWhile_append_of_pos h1, List.dropWhile_append_of_pos h1]
  cases xs with
  | nil => exact ⟨by simp, by simp⟩
  | cons y ys =>
    have := h2 y (List.mem_cons_self ..)
    rw [List.takeWhile_cons, List.dropWhile_cons, if_neg (by simpa using this), if_neg (by simpa using this)]
    exact ⟨by simp, rfl⟩
theorem cmp_self (n : ByteArray) : cmpB n n = 0 := cmpB_eq.2 rfl
/-- The kid of a name, in the midst. -/
theorem at_mid (h : ∀ k ∈ ds, cmpB k.1 n < 0) (r : List ByteArray) : atT (dirN (ds ++ (n, t) :: xs)) (n :: r) = atT t r := by
  rw [atT, kids_mk, List.find?_append, List.find?_eq_none.2 (fun k hk e => by have h1 := h k hk; rw [of_decide_eq_true e, cmp_self] at h1; omega), Option.none_or, List.find?_cons_of_pos (by simp)]
  rfl
theorem at_none {ks : List (ByteArray × Nd)} (h : ∀ k ∈ ks, k.1 ≠ n) (r : List ByteArray) : atT (dirN ks) (n :: r) = none := by
  rw [atT, kids_mk, List.find?_eq_none.2 (fun k hk e => h k hk (of_decide_eq_true e))]
  rfl
theorem high_mid (h : ∀ k ∈ ds, cmpB k.1 n < 0) (h2 : ∀ k ∈ xs, cmpB n k.1 < 0) : lowK (ds ++ (n, t) :: xs) n = ds ∧ highK (ds ++ (n, t) :: xs) n = (n, t) :: xs := low_front h (fun k hk => by
  rcases List.mem_cons.1 hk with rfl | hk
  · rw [cmp_self]; omega
  · have := h2 k hk; rw [cmpB_swap] at this; omega)
theorem with_mid (h : ∀ k ∈ ds, cmpB k.1 n < 0) (h2 : ∀ k ∈ xs, cmpB n k.1 < 0) {r : List ByteArray} (hw : withT x r t = some u) : withT x (n :: r) (dirN (ds ++ (n, t) :: xs)) = some (dirN (ds ++ (n, u) :: xs)) := by
  obtain ⟨h3, h4⟩ := high_mid (t := t) h h2
  rw [with_hit (t := dirN (ds ++ (n, t) :: xs)) rfl h4 rfl, hw]
  show some (Tr.mk _ _ _ _ (lowK (ds ++ (n, t) :: xs) n ++ (n, u) :: xs)) = _
  rw [h3]; rfl
theorem with_new (h : ∀ k ∈ ds, cmpB k.1 n < 0) (h2 : ∀ k ∈ xs, cmpB n k.1 < 0) : withT x [n] (dirN (ds ++ xs)) = some (dirN (ds ++ (n, x) :: xs)) := by
  obtain ⟨h3, h4⟩ := low_front (xs := xs) h (fun k hk => by have := h2 k hk; rw [cmpB_swap] at this; omega)
  rw [with_miss (t := dirN (ds ++ xs)) rfl (fun k c e => by
    rw [kids_mk, h4] at e
    have := h2 k (by rw [e]; simp)
    intro e2
    rw [e2, cmp_self] at this; omega), if_pos rfl]
  show some (Tr.mk _ _ _ _ (lowK (ds ++ xs) n ++ (n, x) :: highK (ds ++ xs) n)) = _
  rw [h3, h4]; rfl
theorem without_mid (h : ∀ k ∈ ds, cmpB k.1 n < 0) (h2 : ∀ k ∈ xs, cmpB n k.1 < 0) (r : List ByteArray) : withoutT (n :: r) (dirN (ds ++ (n, t) :: xs)) = dirN (if r = [] then ds ++ xs else ds ++ (n, withoutT r t) :: xs) := by
  obtain ⟨h3, h4⟩ := high_mid (t := t) h h2
  rw [without_hit (t := dirN (ds ++ (n, t) :: xs)) h4]
  show Tr.mk _ _ _ _ (if r = [] then lowK (ds ++ (n, t) :: xs) n ++ xs else lowK (ds ++ (n, t) :: xs) n ++ (n, withoutT r t) :: xs) = _
  rw [h3]; rfl
/-- A change of a kid is one of the dir. -/
theorem StN.up (h : ∀ k ∈ ds, cmpB k.1 n < 0) (h2 : ∀ k ∈ xs, cmpB n k.1 < 0) {c : Cn} (hs : StN t c u) : StN (dirN (ds ++ (n, t) :: xs)) (c.up n) (dirN (ds ++ (n, u) :: xs)) := by
  cases hs with
  | add ha hw => exact .add (by rw [at_mid h]; exact ha) (with_mid h h2 hw)
  | edit ha hw => exact .edit (by rw [at_mid h]; exact ha) (with_mid h h2 hw)
  | drop hl ha =>
    rename_i l z
    have e := without_mid (t := t) h h2 l
    rw [if_neg hl] at e
    rw [← e]
    exact .drop (by simp) (by rw [at_mid h]; exact ha)
theorem Run.up {P Q : Nd → Prop} (h : ∀ k ∈ ds, cmpB k.1 n < 0) (h2 : ∀ k ∈ xs, cmpB n k.1 < 0) (hpq : ∀ v, P v → Q (dirN (ds ++ (n, v) :: xs))) {L : List Cn} {y : Nd} (hr : Run P t L y) : Run Q (dirN (ds ++ (n, t) :: xs)) (L.map (Cn.up n)) (dirN (ds ++ (n, y) :: xs)) := by
  induction hr with
  | nil _ => exact .nil _
  | cons h3 h4 _ ih => exact .cons (h3.up h h2) (hpq _ h4) ih
end
theorem Run.mono {P Q : Nd → Prop} (h : ∀ v, P v → Q v) {t y : Nd} {L : List Cn} (hr : Run P t L y) : Run Q t L y := by
  induction hr with
  | nil _ => exact .nil _
  | cons h3 h4 _ ih => exact .cons h3 (h _ h4) ih

theorem own_dirN {ks : List (ByteArray × Nd)} : ownE (dirN ks) = 0 ↔ (ks.map (·.1)).all isName = true ∧ (ks.map (·.1)).Pairwise (fun a b => cmpB a b < 0) := by
  rw [own_dir (t := dirN ks) rfl, ← rising_pair]
  exact ⟨fun h => h.2.2, fun h => ⟨rfl, rfl, h⟩⟩
theorem well_dirN {d : Nat} {ks : List (ByteArray × Nd)} : Well d (dirN ks) ↔ d ≤ 8 ∧ ((ks.map (·.1)).all isName = true ∧ (ks.map (·.1)).Pairwise (fun a b => cmpB a b < 0)) ∧ ∀ k ∈ ks, Well (d + 1) k.2 := by
  rw [well_iff, own_dirN]; rfl
theorem dir_eta {t : Nd} {d : Nat} (h : Well d t) (hk : t.kind = kDir) : t = dirN t.kids := by
  obtain ⟨-, h2, -⟩ := well_iff.1 h
  obtain ⟨h3, h4, -⟩ := (own_dir hk).1 h2
  refine Tr.eq_of hk ?_ h4 rfl
  have : t.data.data.toList = [] := List.eq_nil_of_length_eq_zero (by simpa using h3)
  exact ba_inj this

/-- The claim of one level: what two trees differ in. -/
def DnP (m : Nat) : Prop := ∀ (a b : Nd) (d : Nat), a.sz ≤ m → Well d a → Well d b → ∃ L : List Cn, (∀ l, diffT m a b (jt l) = L.map (toCh l)) ∧ Run (fun t => Well d t ∧ t.sz ≤ a.sz + b.sz) a L b ∧ (L = [] → a = b) ∧ ∀ c ∈ L, Good d a b c
def Asc (ks : List (ByteArray × Nd)) : Prop := (ks.map (·.1)).Pairwise (fun a b => cmpB a b < 0)
theorem asc_mid {ds xs : List (ByteArray × Nd)} {z : ByteArray × Nd} (h : Asc (ds ++ z :: xs)) : (∀ k ∈ ds, cmpB k.1 z.1 < 0) ∧ (∀ k ∈ xs, cmpB z.1 k.1 < 0) := by
  unfold Asc at h
  rw [List.map_append, List.map_cons, List.pairwise_append, List.pairwise_cons] at h
  exact ⟨fun k hk => h.2.2 k.1 (List.mem_map_of_mem hk) z.1 (List.mem_cons_self ..), fun k hk => h.2.1.1 k.1 (List.mem_map_of_mem hk)⟩
theorem asc_app {ds xs : List (ByteArray × Nd)} (h1 : Asc ds) (h2 : Asc xs) (h : ∀ k ∈ ds, ∀ z ∈ xs, cmpB k.1 z.1 < 0) : Asc (ds ++ xs) := by
  unfold Asc at h1 h2 ⊢
  rw [List.map_append, List.pairwise_append]
  refine ⟨h1, h2, fun a ha b hb => ?_⟩
  obtain ⟨k, hk, rfl⟩ := List.mem_map.1 ha
  obtain ⟨z, hz, rfl⟩ := List.mem_map.1 hb
  exact h k hk z hz
theorem asc_left {ds xs : List (ByteArray × Nd)} (h : Asc (ds ++ xs)) : Asc ds := by
  unfold Asc at h ⊢; rw [List.map_append, List.pairwise_append] at h; exact h.1
theorem asc_right {ds xs : List (ByteArray × Nd)} (h : Asc (ds ++ xs)) : Asc xs := by
  unfold Asc at h ⊢; rw [List.map_append, List.pairwise_append] at h; exact h.2.1
theorem asc_cross {ds xs : List (ByteArray × Nd)} (h : Asc (ds ++ xs)) : ∀ k ∈ ds, ∀ z ∈ xs, cmpB k.1 z.1 < 0 := by
  unfold Asc at h; rw [List.map_append, List.pairwise_append] at h
  exact fun k hk z hz => h.2.2 k.1 (List.mem_map_of_mem hk) z.1 (List.mem_map_of_mem hz)
/-- What stands while two dirs' kids are gone through: pa, pb: those behind us. -/
structure KdI (d m : Nat) (A B pa xs pb ys : List (ByteArray × Nd)) : Prop where
  a : A = pa ++ xs
  b : B = pb ++ ys
  asca : Asc A
  ascb : Asc B
  ab : ∀ k ∈ pa, ∀ z ∈ ys, cmpB k.1 z.1 < 0
  ba : ∀ k ∈ pb, ∀ z ∈ xs, cmpB k.1 z.1 < 0
  na : (A.map (·.1)).all isName = true
  nb : (B.map (·.1)).all isName = true
  wa : ∀ k ∈ A, Well (d + 1) k.2
  wb : ∀ k ∈ B, Well (d + 1) k.2
  sa : ∀ k ∈ A, k.2.sz ≤ m
section
variable {d m : Nat} {A B pa xs pb ys : List (ByteArray × Nd)}
theorem KdI.well (h : KdI d m A B pa xs pb ys) (hd : d ≤ 8) : Well d (dirN (pb ++ xs)) := by
  refine well_dirN.2 ⟨hd, ⟨?_, ?_⟩, fun k hk => ?_⟩
  · have h1 := h.na; have h2 := h.nb
    rw [h.a, List.map_append, List.all_append, Bool.and_eq_true] at h1
    rw [h.b, List.map_append, List.all_append, Bool.and_eq_true] at h2
    rw [List.map_append, List.all_append, h2.1, h1.2]; rfl
  · exact asc_app (asc_left (h.b ▸ h.ascb)) (asc_right (h.a ▸ h.asca)) h.ba
  · rcases List.mem_append.1 hk with hk | hk
    · exact h.wb k (by rw [h.b]; exact List.mem_append_left _ hk)
    · exact h.wa k (by rw [h.a]; exact List.mem_append_right _ hk)
theorem KdI.sz (h : KdI d m A B pa xs pb ys) : (dirN (pb ++ xs)).sz ≤ Tr.szs A + Tr.szs B + 1 := by
  rw [Tr.sz_kids, kids_mk, Tr.szs_app, h.a, h.b, Tr.szs_app, Tr.szs_app]; omega
/-- a's first one is none of b's. -/
theorem KdI.drop {x : ByteArray × Nd} (h : KdI d m A B pa (x :: xs) pb ys) (hy : ∀ z ∈ ys, cmpB x.1 z.1 < 0) : KdI d m A B (pa ++ [x]) xs pb ys :=
  ⟨by rw [h.a]; simp, h.b, h.asca, h.ascb, fun k hk z hz => by
    rcases List.mem_append.1 hk with hk | hk
    · exact h.ab k hk z hz
    · simp only [List.mem_cons, List.not_mem_nil, or_false] at hk; subst hk; exact hy z hz, fun k hk z hz => h.ba k hk z (List.mem_cons_of_mem _ hz), h.na, h.nb, h.wa, h.wb, h.sa⟩
theorem KdI.add {y : ByteArray × Nd} (h : KdI d m A B pa xs pb (y :: ys)) (hx : ∀ z ∈ xs, cmpB y.1 z.1 < 0) : KdI d m A B pa xs (pb ++ [y]) ys :=
  ⟨h.a, by rw [h.b]; simp, h.asca, h.ascb, fun k hk z hz => h.ab k hk z (List.mem_cons_of_mem _ hz), fun k hk z hz => by
    rcases List.mem_append.1 hk with hk | hk
    · exact h.ba k hk z hz
    · simp only [List.mem_cons, List.not_mem_nil, or_false] at hk; subst hk; exact hx z hz, h.na, h.nb, h.wa, h.wb, h.sa⟩
end
section
variable {d m : Nat} {A B pa xs pb ys : List (ByteArray × Nd)}
theorem KdI.both {n : ByteArray} {t u : Nd} (h : KdI d m A B pa ((n, t) :: xs) pb ((n, u) :: ys)) : KdI d m A B (pa ++ [(n, t)]) xs (pb ++ [(n, u)]) ys :=
  ⟨by rw [h.a]; simp, by rw [h.b]; simp, h.asca, h.ascb, fun k hk z hz => by
    rcases List.mem_append.1 hk with hk | hk
    · exact h.ab k hk z (List.mem_cons_of_mem _ hz)
    · simp only [List.mem_cons, List.not_mem_nil, or_false] at hk; subst hk; exact (asc_mid (z := (n, u)) (h.b ▸ h.ascb)).2 z hz, fun k hk z hz => by
    rcases List.mem_append.1 hk with hk | hk
    · exact h.ba k hk z (List.mem_cons_of_mem _ hz)
    · simp only [List.mem_cons, List.not_mem_nil, or_false] at hk; subst hk; exact (asc_mid (z := (n, t)) (h.a ▸ h.asca)).2 z hz, h.na, h.nb, h.wa, h.wb, h.sa⟩
end
theorem name_of {ks : List (ByteArray × Nd)} (h : (ks.map (·.1)).all isName = true) {k : ByteArray × Nd} (hk : k ∈ ks) : isName k.1 = true := List.all_eq_true.1 h k.1 (List.mem_map_of_mem hk)
theorem cmp_ne {a b : ByteArray} (h : cmpB a b < 0) : a ≠ b := fun e => by rw [e, cmp_self] at h; omega

theorem kids_run (m : Nat) (ih : DnP m) (d : Nat) (hd : d ≤ 8) (A B : List (ByteArray × Nd)) : ∀ (k : Nat) (pa xs pb ys : List (ByteArray × Nd)), xs.length + ys.length ≤ k → KdI d m A B pa xs pb ys →
    ∃ L : List Cn, (∀ l, diffK (diffT m) (jt l) xs ys = L.map (toCh l)) ∧ Run (fun t => Well d t ∧ t.sz ≤ Tr.szs A + Tr.szs B + 1) (dirN (pb ++ xs)) L (dirN (pb ++ ys)) ∧ (L = [] → xs = ys) ∧ ∀ c ∈ L, Good d (dirN A) (dirN B) c := by
  intro k
  induction k with
  | zero =>
    intro pa xs pb ys hk h
    obtain rfl : xs = [] := List.eq_nil_of_length_eq_zero (by omega)
    obtain rfl : ys = [] := List.eq_nil_of_length_eq_zero (by omega)
    exact ⟨[], fun l => by rw [diffK_nil]; rfl, .nil _, fun _ => rfl, fun c hc => by cases hc⟩
  | succ k ihk =>
    intro pa xs pb ys hk h
    have hdrop : ∀ {n : ByteArray} {t : Nd} {xs' : List (ByteArray × Nd)}, xs = (n, t) :: xs' → (∀ z ∈ ys, cmpB n z.1 < 0) → ∃ L : List Cn, (∀ l, diffK (diffT m) (jt l) xs ys = L.map (toCh l)) ∧ Run (fun t => Well d t ∧ t.sz ≤ Tr.szs A + Tr.szs B + 1) (dirN (pb ++ xs)) L (dirN (pb ++ ys)) ∧ (L = [] → xs = ys) ∧ ∀ c ∈ L, Good d (dirN A) (dirN B) c := by
      intro n t xs' hx hy
      subst hx
      have h2 := h.drop hy
      obtain ⟨L, e1, e2, e3, e4⟩ := ihk _ xs' pb ys (by simp only [List.length_cons] at hk; omega) h2
      have ha := h.a ▸ h.asca
      have hmid := asc_mid ha
      refine ⟨⟨kDrop, [n], NdZ⟩ :: L, fun l => ?_, ?_, (fun e => by cases e), fun c hc => ?_⟩
      · rw [diffK_left _ _ (fun b ys' e => hy b (by rw [e]; simp)), e1 l, List.map_cons]
        unfold toCh
        rw [pathOf_snoc]
      · refine .cons ?_ ⟨h2.well hd, h2.sz⟩ e2
        have e := without_mid (ds := pb) (xs := xs') (n := n) (t := t) (fun k hk => h.ba k hk _ (List.mem_cons_self ..)) hmid.2 []
        rw [if_pos rfl] at e
        rw [← e]
        exact .drop (by simp) (by rw [at_mid (fun k hk => h.ba k hk _ (List.mem_cons_self ..))]; rfl)
      · rcases List.mem_cons.1 hc with rfl | hc
        · have hna : atT (dirN A) [n] = some t := by rw [h.a, at_mid hmid.1]; rfl
          have hnb : atT (dirN B) [n] = none := at_none (fun k hk => by
            rw [h.b] at hk
            rcases List.mem_append.1 hk with hk | hk
            · exact cmp_ne (h.ba k hk _ (List.mem_cons_self ..))
            · exact (cmp_ne (hy k hk)).symm) []
          have hw := h.wa (n, t) (by rw [h.a]; simp)
          exact ⟨by simp only [List.all_cons, List.all_nil, Bool.and_true]; exact name_of h.na (by rw [h.a]; simp : (n, t) ∈ A), (well_iff.1 hw).1, ⟨fun _ => kDrop_ne, fun _ => ⟨t, hna⟩⟩, ⟨(fun ⟨q, hq⟩ => by rw [hnb] at hq; cases hq), fun e => absurd rfl e⟩, fun p q _ hq => by rw [hnb] at hq; cases hq⟩
        · exact e4 c hc
    have hadd : ∀ {n : ByteArray} {u : Nd} {ys' : List (ByteArray × Nd)}, ys = (n, u) :: ys' → (∀ z ∈ xs, cmpB n z.1 < 0) → ∃ L : List Cn, (∀ l, diffK (diffT m) (jt l) xs ys = L.map (toCh l)) ∧ Run (fun t => Well d t ∧ t.sz ≤ Tr.szs A + Tr.szs B + 1) (dirN (pb ++ xs)) L (dirN (pb ++ ys)) ∧ (L = [] → xs = ys) ∧ ∀ c ∈ L, Good d (dirN A) (dirN B) c := by
      intro n u ys' hy hx
      subst hy
      have h2 := h.add hx
      obtain ⟨L, e1, e2, e3, e4⟩ := ihk pa xs _ ys' (by simp only [List.length_cons] at hk; omega) h2
      have hb := h.b ▸ h.ascb
      have hmid := asc_mid hb
      rw [List.append_assoc, List.append_assoc] at e2
      simp only [List.cons_append, List.nil_append] at e2
      have h3 := h2.well hd
      have h4 := h2.sz
      rw [List.append_assoc] at h3 h4
      simp only [List.cons_append, List.nil_append] at h3 h4
      refine ⟨⟨kAdd, [n], u⟩ :: L, fun l => ?_, ?_, (fun e => by cases e), fun c hc => ?_⟩
      · rw [diffK_right _ _ (fun a xs' e => by have := hx a (by rw [e]; simp); rw [cmpB_swap] at this; simp only; omega), e1 l, List.map_cons]
        unfold toCh
        rw [pathOf_snoc]
      · refine .cons (.add (at_none (fun k hk => ?_) []) (with_new hmid.1 hx)) ⟨h3, h4⟩ e2
        rcases List.mem_append.1 hk with hk | hk
        · exact cmp_ne (hmid.1 k hk)
        · exact (cmp_ne (hx k hk)).symm
      · rcases List.mem_cons.1 hc with rfl | hc
        · have hnb : atT (dirN B) [n] = some u := by rw [h.b, at_mid hmid.1]; rfl
          have hna : atT (dirN A) [n] = none := at_none (fun k hk => by
            rw [h.a] at hk
            rcases List.mem_append.1 hk with hk | hk
            · exact cmp_ne (h.ab k hk _ (List.mem_cons_self ..))
            · exact (cmp_ne (hx k hk)).symm) []
          have hw := h.wb (n, u) (by rw [h.b]; simp)
          exact ⟨by simp only [List.all_cons, List.all_nil, Bool.and_true]; exact name_of h.nb (by rw [h.b]; simp : (n, u) ∈ B), (well_iff.1 hw).1, ⟨(fun ⟨q, hq⟩ => by rw [hna] at hq; cases hq), fun e => absurd rfl e⟩, ⟨fun _ => kDrop_ne.symm, fun _ => ⟨u, hnb⟩⟩, fun p q hp _ => by rw [hna] at hp; cases hp⟩
        · exact e4 c hc
    cases xs with
    | nil =>
      cases ys with
      | nil => exact ⟨[], fun l => by rw [diffK_nil]; rfl, .nil _, fun _ => rfl, fun c hc => by cases hc⟩
      | cons y ys => exact hadd (n := y.1) (u := y.2) rfl (fun z hz => by cases hz)
    | cons x xs =>
      cases ys with
      | nil => exact hdrop (n := x.1) (t := x.2) rfl (fun z hz => by cases hz)
      | cons y ys =>
        obtain ⟨n, t⟩ := x
        obtain ⟨n', u⟩ := y
        have hma := asc_mid (h.a ▸ h.asca)
        have hmb := asc_mid (h.b ▸ h.ascb)
        by_cases h1 : cmpB n n' < 0
        · exact hdrop rfl (fun z hz => by
            rcases List.mem_cons.1 hz with rfl | hz
            · exact h1
            · exact cmpB_trans h1 (hmb.2 z hz))
        · by_cases h2 : 0 < cmpB n n'
          · have h2' : cmpB n' n < 0 := by rw [cmpB_swap]; omega
            exact hadd rfl (fun z hz => by
              rcases List.mem_cons.1 hz with rfl | hz
              · exact h2'
              · exact cmpB_trans h2' (hma.2 z hz))
          · obtain rfl : n = n' := cmpB_eq.1 (by omega)
            have hb2 := h.both
            obtain ⟨L1, f1, f2, f3, f4⟩ := ih t u (d + 1) (h.sa (n, t) (by rw [h.a]; simp)) (h.wa (n, t) (by rw [h.a]; simp)) (h.wb (n, u) (by rw [h.b]; simp))
            obtain ⟨L, e1, e2, e3, e4⟩ := ihk _ xs _ ys (by simp only [List.length_cons] at hk; omega) hb2
            rw [List.append_assoc, List.append_assoc] at e2
            simp only [List.cons_append, List.nil_append] at e2
            have hwell := h.well hd
            have hpb : ∀ k ∈ pb, cmpB k.1 n < 0 := fun k hk => h.ba k hk _ (List.mem_cons_self ..)
            refine ⟨L1.map (Cn.up n) ++ L, fun l => ?_, ?_, fun e => ?_, fun c hc => ?_⟩
            · rw [diffK_both _ _ (cmp_self n), List.map_append, e1 l, ← jt_snoc, f1 (l ++ [n]), List.map_map]
              congr 1
              apply List.map_congr_left
              intro c _
              unfold toCh Cn.up
              simp
            · refine Run.app (Run.up (ds := pb) (xs := xs) hpb hma.2 (fun v hv => ⟨?_, ?_⟩) f2) e2
              · rw [well_dirN] at hwell ⊢
                obtain ⟨g1, g2, g3⟩ := hwell
                refine ⟨g1, by simpa using g2, fun k hk => ?_⟩
                rcases List.mem_append.1 hk with hk | hk
                · exact g3 k (List.mem_append_left _ hk)
                · rcases List.mem_cons.1 hk with rfl | hk
                  · exact hv.1
                  · exact g3 k (List.mem_append_right _ (List.mem_cons_of_mem _ hk))
              · have hv2 := hv.2
                rw [Tr.sz_kids, kids_mk, Tr.szs_app, h.a, h.b, Tr.szs_app, Tr.szs_app]
                simp only [Tr.szs]
                omega
            · obtain ⟨e5, e6⟩ := List.append_eq_nil_iff.1 e
              have e7 := f3 (List.map_eq_nil_iff.1 e5)
              have e8 := e3 e6
              rw [e7, e8]
            · rcases List.mem_append.1 hc with hc | hc
              · obtain ⟨c1, hc1, rfl⟩ := List.mem_map.1 hc
                obtain ⟨g1, g2, g3, g4, g5⟩ := f4 c1 hc1
                have hA : ∀ r, atT (dirN A) (n :: r) = atT t r := fun r => by rw [h.a, at_mid hma.1]
                have hB : ∀ r, atT (dirN B) (n :: r) = atT u r := fun r => by rw [h.b, at_mid hmb.1]
                refine ⟨?_, ?_, ?_, ?_, ?_⟩
                · unfold Cn.up; simp only [List.all_cons, Bool.and_eq_true]; exact ⟨name_of h.na (by rw [h.a]; simp : (n, t) ∈ A), g1⟩
                · unfold Cn.up; simp only [List.length_cons]; omega
                · unfold Cn.up; simp only [hA]; exact g3
                · unfold Cn.up; simp only [hB]; exact g4
                · unfold Cn.up; simp only [hA, hB]; exact g5
              · exact e4 c hc

theorem dn_step (m : Nat) (ih : DnP m) : DnP (m + 1) := by
  intro a b d hm ha hb
  by_cases hab : a = b
  · subst hab
    exact ⟨[], fun l => by rw [diffT_same]; rfl, .nil _, fun _ => rfl, fun c hc => by cases hc⟩
  · by_cases hdd : a.kind = kDir ∧ b.kind = kDir
    · have ea := dir_eta ha hdd.1
      have eb := dir_eta hb hdd.2
      obtain ⟨hd, ⟨na, asca⟩, wa⟩ := well_dirN.1 (ea ▸ ha)
      obtain ⟨-, ⟨nb, ascb⟩, wb⟩ := well_dirN.1 (eb ▸ hb)
      have hK : KdI d m a.kids b.kids [] a.kids [] b.kids := ⟨rfl, rfl, asca, ascb, (fun k hk => by cases hk), (fun k hk => by cases hk), na, nb, wa, wb, fun k hk => by have := Tr.sz_lt hk; omega⟩
      obtain ⟨L, e1, e2, e3, e4⟩ := kids_run m ih d hd a.kids b.kids _ [] a.kids [] b.kids (Nat.le_refl _) hK
      rw [List.nil_append, List.nil_append, ← ea, ← eb] at e2
      refine ⟨L, fun l => by rw [diffT_dirs hab hdd.1 hdd.2, e1 l], e2.mono (fun v hv => ⟨hv.1, by have := Tr.sz_kids a; have := Tr.sz_kids b; omega⟩), fun e => by rw [ea, eb, e3 e], fun c hc => by rw [ea, eb]; exact e4 c hc⟩
    · refine ⟨[⟨kEdit, [], b⟩], fun l => ?_, Run.one (.edit (z := a) rfl (with_nil b a)) ⟨hb, by omega⟩, (fun e => by cases e), fun c hc => ?_⟩
      · rw [diffT_edit hab hdd]
        unfold toCh
        simp
      · simp only [List.mem_cons, List.not_mem_nil, or_false] at hc
        subst hc
        refine ⟨rfl, by have := (well_iff.1 ha).1; simpa using this, ⟨fun _ => kEdit_ne, fun _ => ⟨a, rfl⟩⟩, ⟨fun _ => kDrop_ne2.symm, fun _ => ⟨b, rfl⟩⟩, fun p q hp hq => ?_⟩
        obtain rfl : a = p := Option.some.inj hp
        obtain rfl : b = q := Option.some.inj hq
        exact hab
theorem dn_all : ∀ m, DnP m
  | 0 => fun a _ _ hm => by have := Tr.sz_kids a; omega
  | m + 1 => dn_step m (dn_all m)

theorem stN_change {t u : Nd} {c : Cn} (h : StN t c u) (h0 : treeE t = 0) (hu : treeE u = 0) (hn : c.names.all isName = true) (h8 : c.names.length ≤ 8) : changeOf t (toCh [] c) = .ok u := by
  have hs : splitOf (toCh [] c).path = some c.names := names_joined (l := c.names) hn h8
  cases h with
  | add ha hw => rw [change_add (e := 6) rfl (getOf_none h0 hs ha)]; exact putOf_ok h0 hs hw hu
  | edit ha hw => rw [change_edit rfl (getOf_ok h0 hs ha)]; exact putOf_ok h0 hs hw hu
  | drop hl ha => rw [change_drop rfl rfl]; exact dropOf_ok h0 hs hl ha
theorem run_apply {P : Nd → Prop} (hP : ∀ t, P t → treeE t = 0) {t y : Nd} {L : List Cn} (hr : Run P t L y) : treeE t = 0 → (∀ c ∈ L, c.names.all isName = true ∧ c.names.length ≤ 8) → ∀ i, applyL i t (L.map (toCh [])) = .ok y := by
  induction hr with
  | nil t => intro _ _ i; exact applyL_nil
  | cons h1 h2 _ ih =>
    rename_i c L _
    intro h0 hn i
    have hc := hn _ (List.mem_cons_self ..)
    rw [List.map_cons, applyL_ok (stN_change h1 h0 (hP _ h2) hc.1 hc.2)]
    exact ih (hP _ h2) (fun c hc => hn c (List.mem_cons_of_mem _ hc)) (i + 1)

/-- What two trees differ in, applied to the first one, makes the second one. -/
theorem diff_back {a b : Nd} (ha : treeE a = 0) (hb : treeE b = 0) (hs : a.sz + b.sz ≤ 200) : applyL 0 a (diffOf a b) = .ok b ∧ (diffOf a b = [] ↔ a = b) ∧
    ∀ c ∈ diffOf a b, ((∃ p, getOf a c.path = .ok p) ↔ c.kind ≠ kAdd) ∧ ((∃ q, getOf b c.path = .ok q) ↔ c.kind ≠ kDrop) ∧ (∀ p q, getOf a c.path = .ok p → getOf b c.path = .ok q → p ≠ q) ∧ c.path.size ≤ 1000 := by
  have wa := (right_iff.1 ha).1
  have wb := (right_iff.1 hb).1
  obtain ⟨L, e1, e2, e3, e4⟩ := dn_all 200 a b 0 (by omega) wa wb
  have e1' : diffOf a b = L.map (toCh []) := e1 []
  rw [e1']
  have hn : ∀ c ∈ L, c.names.all isName = true ∧ c.names.length ≤ 8 := fun c hc => ⟨(e4 c hc).names, by have := (e4 c hc).deep; omega⟩
  refine ⟨run_apply (fun t ht => right_iff.2 ⟨ht.1, by have := ht.2; omega⟩) e2 ha hn 0, ⟨fun e => e3 (List.map_eq_nil_iff.1 e), fun e => ?_⟩, fun c hc => ?_⟩
  · rw [← e1', e]
    exact diffT_same _ _ _
  · obtain ⟨c1, hc1, rfl⟩ := List.mem_map.1 hc
    obtain ⟨g1, g2, g3, g4, g5⟩ := e4 c1 hc1
    have hs : splitOf (toCh [] c1).path = some c1.names := names_joined (l := c1.names) g1 (by omega)
    have hA : ∀ p, getOf a (toCh [] c1).path = .ok p ↔ atT a c1.names = some p := fun p => by
      cases h : atT a c1.names with
      | none => rw [getOf_none ha hs h]; exact ⟨(fun e => by cases e), fun e => by cases e⟩
      | some x => rw [getOf_ok ha hs h]; exact ⟨fun e => by rw [Except.ok.inj e], fun e => by rw [Option.some.inj e]⟩
    have hB : ∀ p, getOf b (toCh [] c1).path = .ok p ↔ atT b c1.names = some p := fun p => by
      cases h : atT b c1.names with
      | none => rw [getOf_none hb hs h]; exact ⟨(fun e => by cases e), fun e => by cases e⟩
      | some x => rw [getOf_ok hb hs h]; exact ⟨fun e => by rw [Except.ok.inj e], fun e => by rw [Option.some.inj e]⟩
    simp only [hA, hB]
    refine ⟨g3, g4, g5, ?_⟩
    show (pathOf (jt c1.names)).size ≤ 1000
    have hj := joined_bd (l := c1.names) (fun n hn => by have := isName_size (List.all_eq_true.1 g1 n hn); omega)
    have hd := g2
    cases hc : c1.names with
    | nil => rw [jt_nil, pathOf_nil']; decide
    | cons n r =>
      rw [hc] at hj hd
      rw [pathOf_cons, jt_size]
      simp only [List.length_cons] at hj hd ⊢
      omega
end Go.Proofs.YtoaedkinlnkkhaaDoor
