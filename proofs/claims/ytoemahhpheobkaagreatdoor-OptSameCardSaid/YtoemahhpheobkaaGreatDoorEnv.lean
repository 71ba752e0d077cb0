/- The sentinel errors that the listed variables hold, and what plain.Code answers. Condition: the variables read as listed. -/
import Derived.Test.YtoemahhpheobkaaGreatDoorEr0
import Derived.LaidLaws
import Derived.LaidHandle
import Derived.ChangeVars
namespace Go.Proofs.YtoemahhpheobkaaGreatDoor
open Go.RowKit Go.ChangeShapes Go.WideShapes

/-- Each variable of G holds a sentinel error of its own, all below block B. -/
structure Env (G : List Nat) (B : Nat) (w : World) (E : Nat → Addr) : Prop where
  cell : ∀ g, g ∈ G → w.cell? ⟨g, 0, none⟩ = some (erv E g)
  blk : ∀ g, g ∈ G → ∃ c T, w.heap[(E g).block]? = some (.cells c T (0, 0))
  inj : ∀ g, g ∈ G → ∀ h, h ∈ G → g ≠ h → E g ≠ E h
  glt : ∀ g, g ∈ G → g < B
  elt : ∀ g, g ∈ G → (E g).block < B
  size : B ≤ w.heap.size

theorem Env.below {G : List Nat} {B B' : Nat} {w w' : World} {E : Nat → Addr} (h : Env G B w E) (hb : Below B' w w') (hB : B ≤ B') : Env G B w' E where
  cell g hg := by rw [hb.cell (by have := h.glt g hg; simp; omega)]; exact h.cell g hg
  blk g hg := by rw [hb.block _ (by have := h.elt g hg; omega)]; exact h.blk g hg
  inj := h.inj
  glt := h.glt
  elt := h.elt
  size := Nat.le_trans h.size hb.size
theorem Env.fr {G : List Nat} {B : Nat} {w w' : World} {E : Nat → Addr} {S : Nat → Prop} (h : Env G B w E) (hf : Fr S w w') (hS : ∀ i, S i → B ≤ i) : Env G B w' E :=
  h.below (hf.below (B := B) h.size hS) (Nat.le_refl _)
theorem Env.ob {G : List Nat} {B : Nat} {w w' : World} {E : Nat → Addr} (h : Env G B w E) (hb : Below w.heap.size w w') : Env G B w' E := h.below hb h.size
theorem Env.sub {G G' : List Nat} {B : Nat} {w : World} {E : Nat → Addr} (h : Env G B w E) (hs : ∀ g, g ∈ G' → g ∈ G) : Env G' B w E :=
  ⟨fun g hg => h.cell g (hs g hg), fun g hg => h.blk g (hs g hg), fun g hg k hk => h.inj g (hs g hg) k (hs k hk), fun g hg => h.glt g (hs g hg), fun g hg => h.elt g (hs g hg), h.size⟩

/-- What a listed sentinel reads as. -/
def sentD (b : List UInt8) : DataW Unit := .iface "*errors.errorString" (.ptr (.agg [.lit (.string b)]))

theorem es_star : "*" ++ "errors.errorString" = "*errors.errorString" := by decide
theorem es_row (u : TypeId) (h : Tryz.prog.typeName? 3 u = some "*errors.errorString") : u = 249 :=
  typeName_ptr_named (nm := "errors.errorString") (by rw [es_star]; kernel_rfl) (by kernel_rfl) (by decide) u (by rw [es_star]; exact h)
theorem es_cells : Tryz.prog.cellsOf 272 = 1 := by kernel_rfl
theorem str_cells : Tryz.prog.cellsOf 9 = 1 := by kernel_rfl
theorem es_struct : ∃ f : Field, Tryz.prog.underlying 272 = some (.struct #[f]) ∧ f.type = 9 ∧ f.offset = 0 := ⟨_, Tryz.underlying272, rfl, rfl⟩


set_option maxRecDepth 100000 in
theorem sents_of_laid (W : World) : ∀ (L : List (String × Nat × List UInt8)), (∀ x ∈ L, Tryz.prog.globalNamed x.1 = some x.2.1 ∧ (Tryz.prog.globals[x.2.1]?).map (·.type) = some 36) → (L.map (·.2.1)).Nodup →
    ∀ ps, DataW.LaidVars Tryz.prog W (L.map fun x => (x.1, sentD x.2.2)) ps → ps.Nodup → (∀ b off, MemPlace.cell b off ∈ ps → ∀ u v, W.cell? ⟨b, off, none⟩ = some (.iface u v) → Value.okWide Tryz.prog W .any 0 u v) →
    ∃ E : Nat → Addr, (∀ g, g ∈ L.map (·.2.1) → W.cell? ⟨g, 0, none⟩ = some (erv E g) ∧ MemPlace.cell (E g).block (E g).off ∈ ps ∧ (E g).spot = none ∧ (E g).block < W.heap.size) ∧
      (∀ g, g ∈ L.map (·.2.1) → ∀ h, h ∈ L.map (·.2.1) → g ≠ h → E g ≠ E h)
  | [], _, _, _, _, _, _ => ⟨fun _ => default, fun _ h => by simp at h, fun _ h => by simp at h⟩
  | (n, g0, b) :: L, hL, hnd, ps, h, hps, hok => by
    obtain ⟨g, t, cs, fuel, p, q, hg, ht, hv, hd, hr, rfl⟩ := h
    obtain ⟨hg', ht'⟩ := hL (n, g0, b) (by simp)
    obtain rfl := Option.some.inj (hg'.symm.trans hg)
    obtain rfl := Option.some.inj (ht'.symm.trans ht)
    obtain ⟨f, hf1, hf2, hf3⟩ := es_struct
    have hnd' := List.nodup_append.1 hps
    have hnd2 := List.nodup_append.1 hnd'.1
    simp only [List.map_cons, List.nodup_cons] at hnd
    obtain ⟨E, h1, h2⟩ := sents_of_laid W L (fun x hx => hL x (by simp [hx])) hnd.2 q hr hnd'.2.1 (fun b' off hm => hok b' off (by simp [hm]))
    have hvc := World.var?_cell hg hv
    obtain ⟨a, s, hcs, hca, _, _, hp⟩ := errorString_of_trod (text := b) Tryz.underlying36 es_row Tryz.underlying249 hf1 hf2 hf3 Tryz.underlying9 es_cells str_cells hd
      (fun u v hcs => hok g0 0 (by
        have : cs.size = 1 := by rw [← Array.length_toList, hcs]; rfl
        simp [MemPlace.row, this]) u v (by rw [hvc 0, ← Array.getElem?_toList, hcs]; rfl))
    have hsp : a.spot = none := World.cell?_spot hca
    have ha : MemPlace.cell a.block a.off ∈ p := by rw [hp]; simp [MemPlace.row]
    have hna : ∀ k, k ∈ L.map (·.2.1) → E k ≠ a := fun k hk e => by
      have := (h1 k hk).2.1
      rw [e] at this
      exact hnd'.2.2 _ (List.mem_append_right _ ha) _ this rfl
    refine ⟨fun k => if k = g0 then a else E k, ?_, ?_⟩
    · intro k hk
      simp only [List.map_cons, List.mem_cons] at hk
      by_cases hkg : k = g0
      · subst hkg
        have : (erv (fun i => if i = k then a else E i) k) = .iface 249 (.pointer (some a)) := by simp [erv]
        rw [this]
        simp only [if_true]
        exact ⟨by rw [hvc 0, ← Array.getElem?_toList, hcs]; rfl, by simp [ha], hsp, World.block_lt_of_cell? W _ hca⟩
      · have hk' : k ∈ L.map (·.2.1) := hk.resolve_left hkg
        obtain ⟨i1, i2, i3, i4⟩ := h1 k hk'
        have : (erv (fun i => if i = g0 then a else E i) k) = erv E k := by simp [erv, hkg]
        rw [this]
        simp only [if_neg hkg]
        exact ⟨i1, by simp [i2], i3, i4⟩
    · intro x hx y hy hxy
      simp only [List.map_cons, List.mem_cons] at hx hy
      by_cases e1 : x = g0
      · by_cases e2 : y = g0
        · exact absurd (e1.trans e2.symm) hxy
        · simp only [e1, if_true, if_neg e2]
          exact fun e => hna y (hy.resolve_left e2) e.symm
      · by_cases e2 : y = g0
        · simp only [e2, if_true, if_neg e1]
          exact hna x (hx.resolve_left e1)
        · simp only [if_neg e1, if_neg e2]
          exact h2 x (hx.resolve_left e1) y (hy.resolve_left e2) hxy

set_option maxRecDepth 100000 in
theorem env_of_laid {W : World} (L : List (String × Nat × List UInt8)) (hL : ∀ x ∈ L, Tryz.prog.globalNamed x.1 = some x.2.1 ∧ (Tryz.prog.globals[x.2.1]?).map (·.type) = some 36) (hnd : (L.map (·.2.1)).Nodup)
    (h : laidMet Tryz.prog (L.map fun x => (x.1, sentD x.2.2)) W) : ∃ E, Env (L.map (·.2.1)) W.heap.size W E := by
  obtain ⟨ps, hl, hps, hok⟩ := h
  obtain ⟨E, h1, h2⟩ := sents_of_laid W L hL hnd ps hl hps (fun b off hm => (hok b off hm).2)
  exact ⟨E, fun g hg => (h1 g hg).1, fun g hg => (hok _ _ (h1 g hg).2.1).1, h2, fun g hg => World.block_lt_of_cell? W _ (h1 g hg).1, fun g hg => (h1 g hg).2.2.2, Nat.le_refl _⟩

end Go.Proofs.YtoemahhpheobkaaGreatDoor
