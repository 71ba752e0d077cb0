/- The contract of refs.Closure. Condition: the packs and the names are there, the variables read as listed. -/
import Derived.Test.YtlcabkhalockpaaGreatDoorQ8
import Derived.Test.YtlcabkhalockpaaGreatDoorQ1
namespace Go.Proofs.YtlcabkhalockpaaGreatDoor
open Go.RowKit Go.Maps

theorem MapS.one {W : World} {m n n' : Nat} {x y : List ByteArray} (h : MapS bvals W m n (setF x)) (k : MapS bvals W m n' (setF y)) {s : ByteArray} (hs : Sz s) : inB s x = inB s y := by
  have h1 := h.look (t := 64) (e := 4) Tryz.underlying64 (zero_bool W) (by simp [bvals]) hs
  have h2 := k.look (t := 64) (e := 4) Tryz.underlying64 (zero_bool W) (by simp [bvals]) hs
  rw [setF_get] at h1 h2
  rw [h1] at h2
  simpa using h2
/-- A text is seen, in memory. -/
def seenW (W : World) (m : Nat) (s : ByteArray) : Prop := ∃ n x, MapS bvals W m n (setF x) ∧ inB s x = true
theorem seenW_iff {W : World} {m n : Nat} {x : List ByteArray} (h : MapS bvals W m n (setF x)) {s : ByteArray} (hs : Sz s) : seenW W m s ↔ inB s x = true :=
  ⟨fun ⟨_, _, k, e⟩ => by rw [MapS.one h k hs]; exact e, fun e => ⟨_, _, h, e⟩⟩
def slN : Value → Nat
  | .slice _ n _ => n
  | _ => 0
def sumU (L : List Pv) (x : List ByteArray) : Nat := (L.map fun p => if inB p.name x = true then 0 else p.refs.length + 1).sum
open Classical in
/-- How much is still to do, at most. -/
noncomputable def pot (L : List Pv) (m : Nat) (v : Value) (W : World) : Nat := slN v + (L.map fun p => if seenW W m p.name then 0 else p.refs.length + 1).sum
theorem pot_eq {L : List Pv} {W : World} {m n : Nat} {x : List ByteArray} (h : MapS bvals W m n (setF x)) (hs : ∀ p ∈ L, Sz p.name) (v : Value) : pot L m v W = slN v + sumU L x := by
  unfold pot sumU
  congr 2
  refine List.map_congr_left fun p hp => ?_
  by_cases hi : inB p.name x = true
  · rw [if_pos hi, if_pos ((seenW_iff h (hs p hp)).2 hi)]
  · rw [if_neg hi, if_neg (fun k => hi ((seenW_iff h (hs p hp)).1 k))]
theorem sumU_add : ∀ {L : List Pv} {x : List ByteArray} {p : Pv}, p ∈ L → inB p.name x = false → sumU L (p.name :: x) + p.refs.length + 1 ≤ sumU L x
  | q :: r, x, p, hp, hx => by
    have hmono : ∀ l : List Pv, sumU l (p.name :: x) ≤ sumU l x := fun l => by
      induction l with
      | nil => exact Nat.le_refl _
      | cons a l ih =>
        simp only [sumU, List.map_cons, List.sum_cons] at ih ⊢
        have : inB a.name x = true → inB a.name (p.name :: x) = true := fun h => inB_iff.2 (List.mem_cons_of_mem _ (inB_iff.1 h))
        by_cases h1 : inB a.name x = true
        · rw [if_pos h1, if_pos (this h1)]; omega
        · rw [if_neg h1]; split <;> omega
    rcases List.mem_cons.1 hp with e | e
    · subst e
      have := hmono r
      simp only [sumU, List.map_cons, List.sum_cons] at this ⊢
      rw [if_pos (by rw [inB_iff]; exact List.mem_cons_self ..), if_neg (by rw [hx]; simp)]
      omega
    · have ih := sumU_add e hx
      simp only [sumU, List.map_cons, List.sum_cons] at ih ⊢
      have : inB q.name x = true → inB q.name (p.name :: x) = true := fun h => inB_iff.2 (List.mem_cons_of_mem _ (inB_iff.1 h))
      by_cases h1 : inB q.name x = true
      · rw [if_pos h1, if_pos (this h1)]; omega
      · rw [if_neg h1]; split <;> omega
/-- A closure's error. -/
def closE (L : List Pv) (names : List ByteArray) : Nat × Int := if (packsE (pnL L)).1 = 0 then (if (names.all fun s => inB s (nmL L)) = true then (0, -1) else (6, -1)) else packsE (pnL L)
def CloP (E : Nat → Addr) (L : List Pv) (names : List ByteArray) (w : World) (e : Ending) (w' : World) : Prop :=
  ∃ (c : List ByteArray) (a : Option Addr) (k : Nat) (ev : Value), e = .returned (.tuple #[.slice a c.length k, ev]) ∧ FaV E ev (closE L names).1 (closE L names).2 w' ∧ TxI c (.slice a c.length k) w' ∧ Below w.heap.size w w' ∧
    ((closE L names).1 = 0 → Good (pnL L) ∧ (∀ s ∈ names, s ∈ nmL L) ∧ Clo (pnL L) names c) ∧ ((closE L names).1 ≠ 0 → c = [])
theorem FaV.iface {E : Nat → Addr} {v : Value} {c : Nat} {at_ : Int} {W : World} (h : FaV E v c at_ W) (hc : c ≠ 0) : ∃ T a, v = .iface T (.pointer (some a)) := by
  rcases h with ⟨h, _⟩ | ⟨_, _, rfl⟩ | ⟨_, f, rfl, _⟩
  · exact absurd h hc
  · exact ⟨_, _, evc_ne hc⟩
  · exact ⟨_, _, rfl⟩
theorem FaV.nil {E : Nat → Addr} {v : Value} {at_ : Int} {W : World} (h : FaV E v 0 at_ W) : v = .nilIface := by
  rcases h with ⟨_, h⟩ | ⟨h, _⟩ | ⟨h, _⟩
  · exact h
  · exact absurd rfl h
  · exact absurd rfl h
theorem txi_nil (w : World) : TxI [] (.slice none 0 0) w := ⟨Sl.nil _ _, fun s h => by cases h⟩
theorem good_sz {L : List Pv} (hg : Good (pnL L)) : ∀ p ∈ L, p.name.size ≠ 0 := fun p hp h0 => by
  have := hg.isn p.pn (List.mem_map.2 ⟨p, hp, rfl⟩)
  unfold isName at this
  simp only [Bool.and_eq_true, decide_eq_true_eq] at this
  have h1 := this.1.1.1.2
  simp only [Pv.pn] at h1
  omega
/-- What Closure keeps. -/
structure ClK (L : List Pv) (names : List ByteArray) (w : World) (sm mm : Nat) (todo seen : List ByteArray) (v : Value) (W : World) : Prop where
  below : Below w.heap.size w W
  ow : Ow (fun g => w.heap.size ≤ g) W 9 1 v todo.length (tcells todo)
  ms : MapS bvals W sm seen.length (setF seen)
  mp : MapS (pvals L) W mm L.length (nmF L)
  wk : Wk (pnL L) names seen todo
  tin : ∀ s ∈ todo, s ∈ nmL L
  sin : ∀ s ∈ seen, s ∈ nmL L
  nd : seen.Nodup
  tl : todo.length ≤ names.length + 20 * seen.length
theorem nodup_le {a b : List ByteArray} (h : a.Nodup) (hs : ∀ s ∈ a, s ∈ b) : a.length ≤ b.length := by
  induction a generalizing b with
  | nil => simp
  | cons x r ih =>
    obtain ⟨h1, h2⟩ := List.nodup_cons.1 h
    obtain ⟨l1, l2, rfl⟩ := List.append_of_mem (hs x (List.mem_cons_self ..))
    have := ih h2 (b := l1 ++ l2) (fun s hs' => by
      rcases List.mem_append.1 (hs s (List.mem_cons_of_mem _ hs')) with k | k
      · exact List.mem_append_left _ k
      · rcases List.mem_cons.1 k with rfl | k
        · exact absurd hs' h1
        · exact List.mem_append_right _ k)
    rw [List.length_append] at this
    simp only [List.length_cons, List.length_append]
    omega
theorem ow_ne {vals : List Value} {F : Nat → Prop} {W : World} {e : TypeId} {n k m : Nat} {v : Value} {xs : List Value} {f : ByteArray → Option Value} (h : Ow F W e 1 v n xs) (hm : MapS vals W m k f) : v.ownBlock ≠ some m := by
  rcases h.2 with ⟨rfl, _⟩ | ⟨g, off, cap, cur, rfl, _, hg, _⟩
  · simp [Value.ownBlock]
  · intro e
    simp only [Value.ownBlock, Option.some.injEq] at e
    subst e
    obtain ⟨D, ⟨es, clock, hh, -⟩, -⟩ := hm
    rw [hh] at hg
    cases hg
/-- The tail of an own row of texts, wherever its address is said to lie when it is empty. -/
theorem ow_tail {F : Nat → Prop} {w : World} {b off n cap : Nat} {x : ByteArray} {r : List ByteArray} (h : Ow F w 9 1 (.slice (some ⟨b, off, none⟩) n cap) (x :: r).length (tcells (x :: r))) :
    w.cell? ⟨b, off, none⟩ = some (.string x) ∧ n = r.length + 1 ∧ Ow F w 9 1 (.slice (if cap = 1 then some (⟨b, off, none⟩ : Addr) else some ⟨b, off + 1, none⟩) r.length (cap - 1)) r.length (tcells r) := by
  have hs := h.sl
  obtain ⟨h1, h2, -, -⟩ := sl_tail3 hs
  obtain ⟨hl, hh⟩ := h
  rcases hh with ⟨he, _⟩ | ⟨g, off', cap', cur, he, hF, hg, hn, hm, hsz, ht⟩
  · cases he
  simp only [Value.slice.injEq, Option.some.injEq, Addr.mk.injEq] at he
  obtain ⟨⟨rfl, rfl, -⟩, rfl, rfl⟩ := he
  simp only [List.length_cons] at hn ht h1
  have ht2 : tcells (x :: r) = .string x :: tcells r := rfl
  rw [ht2] at ht
  have htr : (cur.toList.drop (off + 1)).take (r.length * 1) = tcells r := by
    rw [show off + 1 = off + 1 by rfl, ← List.drop_drop]
    have e : (cur.toList.drop off) = .string x :: (cur.toList.drop off).drop 1 := by
      cases hd : cur.toList.drop off with
      | nil => rw [hd] at ht; simp at ht
      | cons a t =>
        rw [hd] at ht
        simp at ht
        rw [ht.1]; rfl
    rw [e] at ht
    simp only [Nat.mul_one, List.take_succ_cons, List.cons.injEq, true_and] at ht
    simpa using ht
  refine ⟨h2, by simp, by rw [tcells_len]; omega, .inr ?_⟩
  by_cases hc : cap = 1
  · subst hc
    have hr : r = [] := List.eq_nil_of_length_eq_zero (by omega)
    subst hr
    exact ⟨b, off, 0, cur, by simp, hF, hg, by simp, by unfold maxLen; omega, by omega, by simp [tcells]⟩
  · exact ⟨b, off + 1, cap - 1, cur, by rw [if_neg hc], hF, hg, by omega, by omega, by omega, htr⟩
end Go.Proofs.YtlcabkhalockpaaGreatDoor
