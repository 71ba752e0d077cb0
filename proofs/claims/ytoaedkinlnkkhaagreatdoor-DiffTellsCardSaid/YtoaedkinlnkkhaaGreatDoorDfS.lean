/- The contracts of the reference's pathOf, diffOf and DiffOf. Condition: the trees are there; diffOf's: they are well. · The contracts of the reference's diffOf and DiffOf. Condition: the trees are there; diffOf's: they are well. · The contract of the reference's DiffOf. Condition: the trees are there. -/
import Derived.Test.YtoaedkinlnkkhaaGreatDoorDfN
import Derived.Test.YtoaedkinlnkkhaaGreatDoorRgB
import Derived.Test.YtoaedkinlnkkhaaGreatDoorPaF
namespace Go.Proofs.YtoaedkinlnkkhaaGreatDoor
open Go.RowKit Go.Shelf

/-- Names joined that are not empty. -/
def PJ (p : ByteArray) : Prop := ∃ l : List ByteArray, p = jt l ∧ ∀ x ∈ l, 1 ≤ x.size
theorem PJ.nil : PJ ⟨#[]⟩ := ⟨[], rfl, fun x hx => by cases hx⟩
theorem PJ.sub {p n : ByteArray} (h : PJ p) (hn : 1 ≤ n.size) : PJ (sub p n) := by
  obtain ⟨l, rfl, h⟩ := h
  refine ⟨l ++ [n], (jt_snoc l n).symm, fun x hx => ?_⟩
  rcases List.mem_append.1 hx with hx | hx
  · exact h x hx
  · simp only [List.mem_cons, List.not_mem_nil, or_false] at hx; subst hx; exact hn
theorem pathOf_nil : pathOf ⟨#[]⟩ = ⟨#[47]⟩ := by rfl
theorem pathOf_jt (n : ByteArray) (r : List ByteArray) : pathOf (jt (n :: r)) = jt (n :: r) := by
  have hst : Stroke (jt (n :: r)) := .inr ⟨n.data.toList ++ joined r, rfl⟩
  have hne : (jt (n :: r)).toList ≠ [] := by rw [Lib.toList_data]; intro e; cases e
  rw [path_fix hst, show fixP (jt (n :: r)) = jt (n :: r) from if_neg (by simpa using hne)]
theorem PJ.cases {p : ByteArray} (h : PJ p) : p = ⟨#[]⟩ ∨ (pathOf p = p ∧ (p.toList == [47]) = false) := by
  obtain ⟨l, rfl, h⟩ := h
  cases l with
  | nil => exact .inl rfl
  | cons n r =>
    refine .inr ⟨pathOf_jt n r, ?_⟩
    rw [beq_eq_false_iff_ne]
    intro e
    have := congrArg List.length e
    have h1 : (jt (n :: r)).toList.length = (joined (n :: r)).length := by rw [Lib.toList_data]; rfl
    have h2 := h n (List.mem_cons_self ..)
    have h3 : n.data.toList.length = n.size := by simp
    rw [h1] at this
    unfold joined at this
    simp only [List.map_cons, joinL, List.length_cons, List.length_append, List.length_nil] at this
    omega
theorem pathOf_sub {p n : ByteArray} (h : PJ p) : pathOf (sub p n) = sub p n := by
  obtain ⟨l, rfl, h⟩ := h
  rw [← jt_snoc]
  cases l with
  | nil => exact pathOf_jt _ _
  | cons a r => exact pathOf_jt _ _

theorem rpath_any (p n : ByteArray) (w : World) (hp : PJ p) (hs : p.size + n.size ≤ 1000000) :
    Calls Tryz.prog 46 #[.string (pathOf p), .string n] w fun e w' => e = .returned (.string (sub p n)) ∧ w' = w := by
  rcases hp.cases with rfl | ⟨h1, h2⟩
  · rw [pathOf_nil]
    have e1 : ((⟨#[47]⟩ : ByteArray).toList == [47]) = true := by rw [Lib.toList_data]; rfl
    have hsz : (⟨#[]⟩ : ByteArray).size = 0 := rfl
    have r1 : ¬ (9223372036854775807 < 1 + n.size) := by omega
    obtain ⟨s, hsv⟩ : ∃ s : ByteArray, ⟨#[47]⟩ = s := ⟨_, rfl⟩
    have HV := hidd hsv
    have hs1 : s.size = 1 := by rw [← hsv]; rfl
    rw [hsv] at e1
    have HR : Hid (⟨#[47]⟩ ++ n = sub ⟨#[]⟩ n) := hidd (ba_inj (by unfold sub; simp))
    rw [hsv]
    clear hsv hs1
    go_enter Tryz.func46, Tryz.ntmps46
    go_wp2_with fail
    go_ret
    exact ⟨by rw [← HR.out]; rfl, rfl⟩
  · rw [h1]
    have r1 : ¬ (9223372036854775807 < p.size + 1) := by omega
    have r2 : ¬ (9223372036854775807 < p.size + 1 + n.size) := by omega
    clear h1
    go_enter Tryz.func46, Tryz.ntmps46
    go_wp2_with fail
    go_ret
    exact ⟨rfl, rfl⟩

/-- Changes of the reference's: in own memory, but for their nodes, which are b's. -/
structure RdI (B : Nat) (b : Lt) (ls : List (Ch Value)) (v : Value) (W : World) : Prop where
  ow : Ow (fun g => B ≤ g) W 60 6 v ls.length (chcells ls)
  ok : ∀ c ∈ ls, c.n.Ok W
  sub : ∀ F : Nat → Prop, b.In F → ∀ c ∈ ls, c.n.In F
theorem RdI.later {B : Nat} {b : Lt} {ls : List (Ch Value)} {v : Value} {W W' : World} (h : RdI B b ls v W) (hb : Below W.heap.size W W') : RdI B b ls v W' := ⟨h.ow.ob hb, fun c hc => (h.ok c hc).ob hb, h.sub⟩
theorem RdI.app {B : Nat} {b : Lt} {ls cs : List (Ch Value)} {v v' : Value} {W W' : World} (h : RdI B b ls v W) (hbi : b.In (fun g => g < B)) (hF : Fr (fun g => v.ownBlock = some g) W W')
    (how : Ow (fun g => B ≤ g) W' 60 6 v' (ls.length + cs.length) (chcells ls ++ chcells cs)) (hk : ∀ c ∈ cs, c.n.Ok W) (hs : ∀ F : Nat → Prop, b.In F → ∀ c ∈ cs, c.n.In F) : RdI B b (ls ++ cs) v' W' := by
  have hsub : ∀ F : Nat → Prop, b.In F → ∀ c ∈ ls ++ cs, c.n.In F := fun F hF c hc => by
    rcases List.mem_append.1 hc with hc | hc
    · exact h.sub F hF c hc
    · exact hs F hF c hc
  refine ⟨by rw [chcells_app, List.length_append]; exact how, fun c hc => ?_, hsub⟩
  refine ok_fr hF c.n ?_ (in_mono (fun g hg e => by have := (h.ow.blk g e).1; omega) _ (hsub _ hbi c hc))
  rcases List.mem_append.1 hc with hc | hc
  · exact h.ok c hc
  · exact hk c hc
/-- What a call of the reference's gives. -/
def RdP (b : Lt) (D : List (Ch Unit)) (w : World) (e : Ending) (w' : World) : Prop :=
  ∃ (ls : List (Ch Value)) (v : Value), e = .returned v ∧ ChI ls v w' ∧ ls.map Ch.bare = D ∧ (∀ F : Nat → Prop, b.In F → ∀ c ∈ ls, c.n.In F) ∧ Below w.heap.size w w'
def RdH (m : Nat) : Prop := ∀ (a b : Lt) (p : ByteArray) (w : World), a.sz ≤ m → treeE a = 0 → treeE b = 0 → a.Ok w → b.Ok w → PJ p → p.size + 20 * m ≤ 100000 →
  Calls Tryz.prog 29 #[nval a, nval b, .string (pathOf p)] w (RdP b (diffT m a.bare b.bare p) w)
end Go.Proofs.YtoaedkinlnkkhaaGreatDoor

namespace Go.Proofs.YtoaedkinlnkkhaaGreatDoor
open Go.RowKit Go.Shelf

/-- Changes made so far, and those to come. -/
structure RdR (a b : Lt) (m : Nat) (p : ByteArray) (D : List (Ch Unit)) (w : World) (i k : Nat) (ls : List (Ch Value)) (v : Value) (W : World) : Prop where
  ri : RdI (w.heap.size + 2) b ls v W
  d : ls.map Ch.bare ++ diffK (diffT m) p (mapB (a.kids.drop i)) (mapB (b.kids.drop k)) = D
  ba : Blk W w.heap.size (ncells a) 24
  bb : Blk W (w.heap.size + 1) (ncells b) 24
  bel : Below w.heap.size w W
  n : ls.length + Tr.szs (a.kids.drop i) + Tr.szs (b.kids.drop k) ≤ 100000
theorem RdR.step {a b : Lt} {m : Nat} {p : ByteArray} {D Dc : List (Ch Unit)} {w : World} {i k i' k' : Nat} {ls cs : List (Ch Value)} {v v' : Value} {W W1 W2 : World} (h : RdR a b m p D w i k ls v W) (hbi : b.In (fun g => g < w.heap.size))
    (hb : Below W.heap.size W W1) (hF : Fr (fun g => v.ownBlock = some g) W1 W2) (how : Ow (fun g => w.heap.size + 2 ≤ g) W2 60 6 v' (ls.length + cs.length) (chcells ls ++ chcells cs)) (hk : ∀ c ∈ cs, c.n.Ok W1)
    (hs : ∀ F : Nat → Prop, b.In F → ∀ c ∈ cs, c.n.In F) (hc : cs.map Ch.bare = Dc) (hd : diffK (diffT m) p (mapB (a.kids.drop i)) (mapB (b.kids.drop k)) = Dc ++ diffK (diffT m) p (mapB (a.kids.drop i')) (mapB (b.kids.drop k')))
    (hl : Dc.length + Tr.szs (a.kids.drop i') + Tr.szs (b.kids.drop k') ≤ Tr.szs (a.kids.drop i) + Tr.szs (b.kids.drop k)) : RdR a b m p D w i' k' (ls ++ cs) v' W2 := by
  have h1 := h.ri.later hb
  have hz := hb.size
  have hw := h.bel.size
  have hob : ∀ g, v.ownBlock = some g → w.heap.size + 2 ≤ g := fun g e => (h.ri.ow.blk g e).1
  refine ⟨h1.app (in_mono (fun g hg => by omega) _ hbi) hF how hk hs, ?_, ((h.ba.below hb h.ba.lt).fr hF (fun e => by have := hob _ e; omega)), ((h.bb.below hb h.bb.lt).fr hF (fun e => by have := hob _ e; omega)), ?_, ?_⟩
  · rw [List.map_append, hc, List.append_assoc, ← hd]; exact h.d
  · exact (h.bel.trans (hb.mono hw)).trans (hF.below (by omega) (fun g e => by have := hob g e; omega))
  · have := h.n
    have e : cs.length = Dc.length := by rw [← hc, List.length_map]
    rw [List.length_append]
    omega
theorem RdR.later {a b : Lt} {m : Nat} {p : ByteArray} {D : List (Ch Unit)} {w : World} {i k : Nat} {ls : List (Ch Value)} {v : Value} {W W1 : World} (h : RdR a b m p D w i k ls v W) (hb : Below W.heap.size W W1) : RdR a b m p D w i k ls v W1 :=
  ⟨h.ri.later hb, h.d, h.ba.below hb h.ba.lt, h.bb.below hb h.bb.lt, h.bel.trans (hb.mono h.bel.size), h.n⟩
theorem RdR.bel2 {a b : Lt} {m : Nat} {p : ByteArray} {D : List (Ch Unit)} {w : World} {i k : Nat} {ls : List (Ch Value)} {v : Value} {W : World} (h : RdR a b m p D w i k ls v W) : w.heap.size + 2 ≤ W.heap.size := h.bb.lt
theorem chcells_one {W : World} : ∀ {ls : List (Ch Value)}, (∀ c ∈ ls, c.n.Ok W) → ∀ u ∈ chcells ls, u.oneCell' = true
  | [], _, u, hu => by cases hu
  | c :: r, h, u, hu => by
    rw [show chcells (c :: r) = chcell c ++ chcells r from rfl] at hu
    rcases List.mem_append.1 hu with hu | hu
    · obtain ⟨a, k, hv⟩ := (h c (List.mem_cons_self ..)).shape
      unfold chcell ncells at hu
      simp only [List.mem_cons, List.not_mem_nil, or_false] at hu
      rcases hu with rfl | rfl | rfl | rfl | rfl | rfl
      any_goals rfl
      rw [hv]; rfl
    · exact chcells_one (fun x hx => h x (List.mem_cons_of_mem _ hx)) u hu
theorem sl_of_blk {w : World} {b : Nat} {cs : List Value} {T : TypeId} (h : Blk w b cs T) {n size : Nat} (hl : cs.length = n * size) (hm : n ≤ maxLen) : Sl w (.slice (some ⟨b, 0, none⟩) n n) cs n size :=
  ⟨_, _, rfl, hl, Nat.le_refl _, hm, .inr ⟨b, 0, rfl, h.lt, fun j hj => by rw [Nat.zero_add]; exact h.cell (List.getElem?_eq_getElem hj)⟩⟩
theorem isName_pos {s : ByteArray} (h : isName s = true) : 1 ≤ s.size := by
  unfold isName at h
  simp only [Bool.and_eq_true, decide_eq_true_eq] at h
  exact h.1.1.1.2
theorem drop_szs {α : Type} {ks : List (ByteArray × Tr α)} {i : Nat} (h : i < ks.length) : Tr.szs (ks.drop i) = ks[i].2.sz + Tr.szs (ks.drop (i + 1)) := by
  rw [show ks.drop i = ks[i] :: ks.drop (i + 1) from (List.getElem_cons_drop h).symm]
  exact Tr.szs.eq_2 _ _ _
theorem mapB_drop {ks : List (ByteArray × Lt)} {i : Nat} (h : i < ks.length) : mapB (ks.drop i) = (ks[i].1, ks[i].2.bare) :: mapB (ks.drop (i + 1)) := by
  rw [show ks.drop i = ks[i] :: ks.drop (i + 1) from (List.getElem_cons_drop h).symm]; rfl
theorem mapB_end {ks : List (ByteArray × Lt)} {i : Nat} (h : ks.length ≤ i) : mapB (ks.drop i) = [] := by rw [List.drop_of_length_le h]; rfl

set_option maxRecDepth 100000 in
set_option maxHeartbeats 40000000 in
theorem rdiff_dirs (m : Nat) (hN : RdH m) (a b : Lt) (p : ByteArray) (w : World) (hm : a.sz ≤ m + 1) (ha0 : treeE a = 0) (hb0 : treeE b = 0) (ha : a.Ok w) (hb : b.Ok w) (hpj : PJ p) (hp : p.size + 20 * (m + 1) ≤ 100000) (hne : a.bare ≠ b.bare) (hka : a.kind = kDir) (hkb : b.kind = kDir) :
    Calls Tryz.prog 29 #[nval a, nval b, .string (pathOf p)] w (RdP b (diffT (m + 1) a.bare b.bare p) w) := by
  obtain ⟨aa, ac, hav⟩ := ha.shape
  obtain ⟨ba, bc, hbv⟩ := hb.shape
  obtain ⟨i0, hi0, hz0, hz1, hz2⟩ := info_parts infoCh
  obtain ⟨D, hD⟩ : ∃ D, diffT (m + 1) a.bare b.bare p = D := ⟨_, rfl⟩
  rw [hD]
  have hD2 : diffK (diffT m) p (mapB a.kids) (mapB b.kids) = D := by
    rw [← hD, diffT_dirs hne (by rw [← hka]; exact Tr.kind_map _ a) (by rw [← hkb]; exact Tr.kind_map _ b)]
    rw [show a.bare.kids = mapB a.kids from Tr.kids_map _ a, show b.bare.kids = mapB b.kids from Tr.kids_map _ b]
  have hB2 := two_below w #[.string a.kind, .string a.data, .bool a.exec, a.v] #[.string b.kind, .string b.data, .bool b.exec, b.v] 24
  have hq1 := (Blk.new w [.string a.kind, .string a.data, .bool a.exec, a.v] 24).alloc (.cells #[.string b.kind, .string b.data, .bool b.exec, b.v] 24)
  have hq2 := Blk.new (w.alloc (.cells #[.string a.kind, .string a.data, .bool a.exec, a.v] 24)) [.string b.kind, .string b.data, .bool b.exec, b.v] 24
  rw [show (w.alloc (.cells #[.string a.kind, .string a.data, .bool a.exec, a.v] 24)).heap.size = w.heap.size + 1 by simp] at hq2
  have hbin := ok_in b hb
  have hasz := right_sz ha0
  have hbsz := right_sz hb0
  have hsza := Tr.sz_kids a
  have hszb := Tr.sz_kids b
  have HR0 : Hid (∀ W, Below ((w.alloc (.cells #[.string a.kind, .string a.data, .bool a.exec, a.v] 24)).alloc (.cells #[.string b.kind, .string b.data, .bool b.exec, b.v] 24)).heap.size ((w.alloc (.cells #[.string a.kind, .string a.data, .bool a.exec, a.v] 24)).alloc (.cells #[.string b.kind, .string b.data, .bool b.exec, b.v] 24)) W → RdR a b m p D w 0 0 [] (.slice none 0 0) W) := hidd (fun W hW =>
    ⟨⟨Ow.nil _ _ _ _, (fun c hc => by cases hc), (fun F _ c hc => by cases hc)⟩, by rw [List.drop_zero, List.drop_zero]; exact hD2, hq1.below hW hq1.lt, hq2.below hW hq2.lt, hB2.trans (hW.mono hB2.size), by rw [List.drop_zero, List.drop_zero]; simp only [List.length_nil]; omega⟩)
  have HS := hidd (sameTree_any _ a b _ false (Nat.le_refl _) (ha.ob hB2) (hb.ob hB2) ⟨fun h => (by cases h), fun h => absurd h hne⟩)
  have HNM := hidd (fun n (hn : n.size ≤ 12) W => rpath_any p n W hpj (by omega))
  have HPJ := hidd hpj
  have HAO := hidd (fun W (h : Below w.heap.size w W) => ha.ob h)
  have HBO := hidd (fun W (h : Below w.heap.size w W) => hb.ob h)
  have HKA := hidd (fun i (h : i < a.kids.length) => (⟨isName_size (own_names (treeE_own ha0).1 _ (List.getElem_mem h)), isName_pos (own_names (treeE_own ha0).1 _ (List.getElem_mem h)), kid_right ha0 (List.getElem_mem h), by have := Tr.sz_lt (List.getElem_mem h); omega⟩ : a.kids[i].1.size ≤ 12 ∧ 1 ≤ a.kids[i].1.size ∧ treeE a.kids[i].2 = 0 ∧ a.kids[i].2.sz ≤ m))
  have HKB := hidd (fun i (h : i < b.kids.length) => (⟨isName_size (own_names (treeE_own hb0).1 _ (List.getElem_mem h)), kid_right hb0 (List.getElem_mem h)⟩ : b.kids[i].1.size ≤ 12 ∧ treeE b.kids[i].2 = 0))
  have HBI := hidd hbin
  have HNH := hidd hN
  obtain ⟨s, hs⟩ : ∃ s, pathOf p = s := ⟨_, rfl⟩
  have HSV := hidd hs
  unfold nval at HS ⊢
  rw [hs] at HNM ⊢
  have ea : (kDir.toList == [100, 105, 114]) = true := by rw [kDir_list]; rfl
  have hkl : a.kids.length ≤ 200 := right_kids ha0
  have hkl2 : b.kids.length ≤ 200 := right_kids hb0
  clear ha hb hD hD2 hbin hasz hbsz hsza hszb hpj hN hs hne ha0 hb0 hm hB2 hq1 hq2
  obtain ⟨ka, da, ea', va, ksa⟩ := a
  obtain ⟨kb, db, eb', vb, ksb⟩ := b
  simp only [Tr.v, Tr.kids, Tr.kind] at hav hbv hka hkb hkl hkl2
  subst hav hbv hka hkb
  simp only [Tr.kind, Tr.data, Tr.exec, Tr.v, Tr.kids] at HS HKA HKB HR0 ⊢
  go_enter Tryz.func29, Tryz.ntmps29
  go_wp2_with fail
  refine HS.out.mono ?_
  rintro e w3 ⟨rfl, hb3⟩
  have HR := hidd (HR0.out w3 hb3)
  have c0 := HR.out.ba.cell (i := 0) rfl
  have d0 := HR.out.bb.cell (i := 0) rfl
  simp only [Tr.kind] at c0 d0
  clear HR0 HS hb3
  go_wp2_with fail
  clear c0 d0
  go_loopw [8, 9, 10, 11, 12, 13] (fun vv vi vk _ _ _ wr => ∃ (i k : Nat) (ls : List (Ch Value)), i ≤ ksa.length ∧ k ≤ ksb.length ∧ vi = .int .i64 (i : Int) ∧ vk = .int .i64 (k : Int) ∧ RdR (.mk kDir da ea' (.slice aa ksa.length ac) ksa) (.mk kDir db eb' (.slice ba ksb.length bc) ksb) m p D w i k ls vv wr)
    (fun _ vi vk _ _ _ _ => (ksa.length - (intOf vi).toNat) + (ksb.length - (intOf vk).toNat))
  case atStart => exact ⟨0, 0, [], Nat.zero_le _, Nat.zero_le _, rfl, rfl, HR.out⟩
  case round =>
    obtain ⟨i, k, ls, hi, hk, rfl, rfl, hrel⟩ := hrel
    have ca := hrel.ba.cell (i := 3) rfl
    have cb := hrel.bb.cell (i := 3) rfl
    simp only [Tr.v] at ca cb
    have h63a : ksa.length ≤ 9223372036854775807 := by omega
    have h63b : ksb.length ≤ 9223372036854775807 := by omega
    obtain ⟨va, vc, hvv⟩ := hrel.ri.ow.shape
    subst hvv
    by_cases hia : i < ksa.length
    · by_cases hkb : k < ksb.length
      · skip
        have hA := HAO.out wr hrel.bel
        obtain ⟨b1, o1, rfl, hb1, a0, a1, a2, a3, a4⟩ := hA.at5 rfl hia
        simp only [Tr.kids] at a0 a1 a2 a3 a4
        obtain ⟨x, hx⟩ : ∃ x, ksa[i] = x := ⟨_, rfl⟩
        rw [hx] at a0 a1 a2 a3 a4
        have HXE : Hid (ksa[i] = x) := hidd hx
        clear hx hA
        obtain ⟨xn, xt⟩ := x
        simp only at a0 a1 a2 a3 a4
        have pi1 : (0 : Int) ≤ (i : Int) := by omega
        have pi2 : (i : Int) < (ksa.length : Int) := by omega
        have pi4 : ((i : Int) == (ksa.length : Int)) = false := by rw [beq_eq_false_iff_ne]; omega
        have hA := HBO.out wr hrel.bel
        obtain ⟨b2, o2, rfl, hb2, g0, g1, g2, g3, g4⟩ := hA.at5 rfl hkb
        simp only [Tr.kids] at g0 g1 g2 g3 g4
        obtain ⟨y, hy⟩ : ∃ y, ksb[k] = y := ⟨_, rfl⟩
        have HY : Hid (ksb[k] = y) := hidd hy
        rw [hy] at g0 g1 g2 g3 g4
        clear hy hA
        obtain ⟨yn, yt⟩ := y
        simp only at g0 g1 g2 g3 g4
        have qi1 : (0 : Int) ≤ (k : Int) := by omega
        have qi2 : (k : Int) < (ksb.length : Int) := by omega
        have qi4 : ((k : Int) == (ksb.length : Int)) = false := by rw [beq_eq_false_iff_ne]; omega
        clear a1 a2 a3 a4 g1 g2 g3 g4 hb1 hb2
        have HRL := hidd hrel
        obtain ⟨cv, hcv⟩ : ∃ c, cmpB xn yn = c := ⟨_, rfl⟩
        have HCE : Hid (cv = 0 ↔ xn = yn) := hidd (by rw [← hcv]; exact cmpB_eq)
        have q1 := less_cmp xn yn
        have q2 := less_cmp yn xn
        rw [cmpB_swap xn yn] at q2
        rw [hcv] at q1 q2
        have HCV : Hid (cmpB ksa[i].1 ksb[k].1 = cv) := hidd (by rw [HXE.out, HY.out]; exact hcv)
        clear hrel hcv HXE HY HR
        by_cases h1 : cv < 0
        · have e1 : Op.bytesLess xn.toList yn.toList = true := by rw [q1]; exact decide_eq_true h1
          have e2 : Op.bytesLess yn.toList xn.toList = false := by rw [q2]; exact decide_eq_false (by omega)
          have HC : Hid (cmpB ksa[i].1 ksb[k].1 < 0) := hidd (by rw [HCV.out]; exact h1)
          clear q1 q2 h1
          go_upto_region 13 with fail
          go_quiet (fail)
          obtain ⟨n1, hn1⟩ : ∃ n, n = nq := ⟨_, rfl⟩
          subst hn1
          go_upto_region 14 with fail
          go_quiet (fail)
          obtain ⟨wq, hwq⟩ : ∃ W, (wr.drewN n1).drewN nq = W := ⟨_, rfl⟩
          have hbq : Below wr.heap.size wr wq := by rw [← hwq]; exact (Below.drewN _ _ _).trans (Below.drewN _ _ _)
          rw [hwq]
          have hrel := HRL.out.later hbq
          have hc := HC.out
          clear hwq hbq HRL a0 g0 ca cb HC
          have ca := hrel.ba.cell (i := 3) rfl
          have cb := hrel.bb.cell (i := 3) rfl
          simp only [Tr.v] at ca cb
          have hA := HAO.out wq hrel.bel
          obtain ⟨b1x, o1x, hex, hb1, a0, a1, a2, a3, a4⟩ := hA.at5 rfl hia
          simp only [Option.some.injEq, Addr.mk.injEq, and_true] at hex
          obtain ⟨rfl, rfl⟩ := hex
          have hxk := hA.get hia
          obtain ⟨hx12, hx1, hx0, hxm⟩ := HKA.out i hia
          have hdx := drop_szs hia
          have hmx := mapB_drop hia
          simp only [Tr.kids] at a0 a1 a2 a3 a4 hxk
          obtain ⟨x, hx⟩ : ∃ x, ksa[i] = x := ⟨_, rfl⟩
          rw [hx] at a0 a1 a2 a3 a4 hxk hx12 hx1 hx0 hxm hdx hmx
          have hcx : cmpB x.1 ksb[k].1 < 0 := by rw [← hx]; exact hc
          clear hx hA hc
          obtain ⟨xn, xt⟩ := x
          simp only at hcx a0 a1 a2 a3 a4 hxk hx12 hx1 hx0 hxm hdx hmx
          have pi1 : (0 : Int) ≤ (i : Int) := by omega
          have pi2 : (i : Int) < (ksa.length : Int) := by omega
          have pi4 : ((i : Int) == (ksa.length : Int)) = false := by rw [beq_eq_false_iff_ne]; omega
          obtain ⟨Dc, hDc⟩ : ∃ Dc, [(⟨kDrop, sub p xn, NdZ⟩ : Ch Unit)] = Dc := ⟨_, rfl⟩
          have HDC : Hid (diffK (diffT m) p (mapB (ksa.drop i)) (mapB (ksb.drop k)) = Dc ++ diffK (diffT m) p (mapB (ksa.drop (i + 1))) (mapB (ksb.drop k))) := hidd (by rw [← hDc, hmx]; exact diffK_left (diffT m) p (a := (xn, xt.bare)) (fun b ys' e => by rw [mapB_drop hkb] at e; obtain ⟨rfl, rfl⟩ := List.cons.inj e; exact hcx))
          have HDL : Hid (Dc.length + Tr.szs (ksa.drop (i + 1)) + Tr.szs (ksb.drop k) ≤ Tr.szs (ksa.drop i) + Tr.szs (ksb.drop k)) := hidd (by rw [← hDc, hdx]; have := Tr.sz_kids xt; simp only [List.length_cons, List.length_nil]; omega)
          have HDV := hidd hDc
          have HNX := hidd (HNM.out xn hx12 wq)
          obtain ⟨t, ht⟩ : ∃ t, sub p xn = t := ⟨_, rfl⟩
          rw [ht] at HNX HDV
          have how1 := hrel.ri.ow.alloc (.cells [Value.string ⟨#[100, 114, 111, 112]⟩, .string t, .string ⟨#[]⟩, .string ⟨#[]⟩, .bool false, .slice none 0 0].toArray 60)
          have hs1 := Src.new (P := Tryz.prog) (size := 6) (tx := 25) Tryz.underlying25 wq wq.heap.size rfl [.string ⟨#[100, 114, 111, 112]⟩, .string t, .string ⟨#[]⟩, .string ⟨#[]⟩, .bool false, .slice none 0 0] 60 rfl (by intro u hu; simp only [List.mem_cons, List.not_mem_nil, or_false] at hu; rcases hu with rfl | rfl | rfl | rfl | rfl | rfl <;> rfl) 1
          have hln := hrel.n
          have HRL := hidd hrel
          have hwz := hrel.bel.size
          clear hDc ht hcx hdx hmx hrel a1 a2 a3 a4 hxk hx1 hx0 hxm
          go_wp2_with fail
          refine HNX.out.mono ?_
          rintro e w4 ⟨rfl, hw4⟩
          subst hw4
          go_wp2_with (at_builtin; refine wpList_append_ow _ rfl _ _ 25 25 rfl (fun g => w.heap.size + 2 ≤ g) ?cF 60 i0 _ 6 96 Tryz.underlying25 hi0 hz0 hz1 hz2 rfl (by decide) _ _ _ rfl how1 _ _ _ rfl hs1 ?c3 ?c4 ?_)
          case cF => intro g hg; have := HRL.out.bel2; simp at hg; omega
          case c3 => unfold maxLen; omega
          case c4 => omega
          intro v5 w5 how5 hg5
          obtain ⟨v5a, v5c, hv5⟩ := how5.shape
          have HR5 := hidd (HRL.out.step (cs := [⟨kDrop, t, zLt⟩]) HBI.out ((Below.refl _ _).alloc (Nat.le_refl _) _) ((Fr.refl _ _).grown hg5 (fun g hg => .inl hg)) how5 (fun c hc => by simp only [List.mem_cons, List.not_mem_nil, or_false] at hc; subst hc; exact zLt_ok _) (fun F _ c hc => by simp only [List.mem_cons, List.not_mem_nil, or_false] at hc; subst hc; exact zLt_in _) (by rw [← HDV.out, ← zLt_bare]; rfl) HDC.out HDL.out)
          clear how5 hg5 how1 hs1 ca cb a0 hln HDC HDL HNX HRL
          subst hv5
          go_wp2_with fail
          go_roundw
          case rel => exact ⟨i + 1, k, _, by omega, by omega, by go_num, rfl, HR5.out⟩
          case measure => simp [intOf]; omega
        · by_cases h2 : 0 < cv
          · have e1 : Op.bytesLess xn.toList yn.toList = false := by rw [q1]; exact decide_eq_false h1
            have e2 : Op.bytesLess yn.toList xn.toList = true := by rw [q2]; exact decide_eq_true (by omega)
            have e3 : (xn.toList == yn.toList) = false := beq_str (fun e => by have h := HCE.out.2 e; omega)
            have HC : Hid (0 < cmpB ksa[i].1 ksb[k].1) := hidd (by rw [HCV.out]; exact h2)
            clear q1 q2 h1 h2
            go_upto_region 13 with fail
            go_quiet (fail)
            obtain ⟨n1, hn1⟩ : ∃ n, n = nq := ⟨_, rfl⟩
            subst hn1
            go_upto_region 14 with fail
            go_quiet (fail)
            obtain ⟨wq, hwq⟩ : ∃ W, (wr.drewN n1).drewN nq = W := ⟨_, rfl⟩
            have hbq : Below wr.heap.size wr wq := by rw [← hwq]; exact (Below.drewN _ _ _).trans (Below.drewN _ _ _)
            rw [hwq]
            have hrel := HRL.out.later hbq
            have hc := HC.out
            clear hwq hbq HRL a0 g0 ca cb HC
            have ca := hrel.ba.cell (i := 3) rfl
            have cb := hrel.bb.cell (i := 3) rfl
            simp only [Tr.v] at ca cb
            have hA := HBO.out wq hrel.bel
            obtain ⟨b2x, o2x, hey, hb2, g0, g1, g2, g3, g4⟩ := hA.at5 rfl hkb
            simp only [Option.some.injEq, Addr.mk.injEq, and_true] at hey
            obtain ⟨rfl, rfl⟩ := hey
            have hyk := hA.get hkb
            obtain ⟨hy12, hy0⟩ := HKB.out k hkb
            have hdy := drop_szs hkb
            have hmy := mapB_drop hkb
            simp only [Tr.kids] at g0 g1 g2 g3 g4 hyk
            obtain ⟨y, hy⟩ : ∃ y, ksb[k] = y := ⟨_, rfl⟩
            have HY : Hid (ksb[k] = y) := hidd hy
            rw [hy] at g0 g1 g2 g3 g4 hyk hy12 hy0 hdy hmy
            have hcx : 0 < cmpB ksa[i].1 y.1 := by rw [← hy]; exact hc
            clear hy hA hc
            obtain ⟨yn, yt⟩ := y
            simp only at hcx g0 g1 g2 g3 g4 hyk hy12 hy0 hdy hmy
            have qi1 : (0 : Int) ≤ (k : Int) := by omega
            have qi2 : (k : Int) < (ksb.length : Int) := by omega
            have qi4 : ((k : Int) == (ksb.length : Int)) = false := by rw [beq_eq_false_iff_ne]; omega
            obtain ⟨Dc, hDc⟩ : ∃ Dc, [(⟨kAdd, sub p yn, yt.bare⟩ : Ch Unit)] = Dc := ⟨_, rfl⟩
            have HDC : Hid (diffK (diffT m) p (mapB (ksa.drop i)) (mapB (ksb.drop k)) = Dc ++ diffK (diffT m) p (mapB (ksa.drop i)) (mapB (ksb.drop (k + 1)))) := hidd (by rw [← hDc, hmy]; exact diffK_right (diffT m) p (b := (yn, yt.bare)) (fun b ys' e => by rw [mapB_drop hia] at e; obtain ⟨rfl, rfl⟩ := List.cons.inj e; exact hcx))
            have HDL : Hid (Dc.length + Tr.szs (ksa.drop i) + Tr.szs (ksb.drop (k + 1)) ≤ Tr.szs (ksa.drop i) + Tr.szs (ksb.drop k)) := hidd (by rw [← hDc, hdy]; have := Tr.sz_kids yt; simp only [List.length_cons, List.length_nil]; omega)
            have HYI : Hid (∀ F : Nat → Prop, (Tr.mk kDir db eb' (.slice (some ⟨b2, o2, none⟩) ksb.length bc) ksb : Lt).In F → yt.In F) := hidd (fun F h => by rw [Tr.In] at h; exact inS_iff.1 h.2 (yn, yt) (by rw [← HY.out]; exact List.getElem_mem _))
            have hb2w : b2 < w.heap.size := by have h := HBI.out; rw [Tr.In] at h; exact h.1 (fun e => by rw [e] at hkb; simp at hkb) b2 rfl
            have HDV := hidd hDc
            have HNX := hidd (HNM.out yn hy12 wq.drew)
            obtain ⟨t, ht⟩ : ∃ t, sub p yn = t := ⟨_, rfl⟩
            rw [ht] at HNX HDV
            obtain ⟨yga, ygc, hyv⟩ := hyk.shape
            obtain ⟨ky, dy, ey, vy, ksy⟩ := yt
            simp only [Tr.v, Tr.kids, Tr.kind, Tr.data, Tr.exec] at hyv g1 g2 g3 g4
            subst hyv
            have how1 := hrel.ri.ow.self
            have hob : ∀ g, (Value.slice va ls.length vc).ownBlock = some g → w.heap.size + 2 ≤ g := fun g e => (hrel.ri.ow.blk g e).1
            have hs1 := Src.new (P := Tryz.prog) (size := 6) (tx := 25) Tryz.underlying25 wq.drew wq.heap.size rfl [.string ⟨#[97, 100, 100]⟩, .string t, .string ky, .string dy, .bool ey, .slice yga ksy.length ygc] 60 rfl (by intro u hu; simp only [List.mem_cons, List.not_mem_nil, or_false] at hu; rcases hu with rfl | rfl | rfl | rfl | rfl | rfl <;> rfl) 1
            have HSC : Hid (∀ W, Fr (fun g => (Value.slice va ls.length vc).ownBlock = some g) wq W → W.cell? ⟨w.heap.size + 1, 3, none⟩ = some (.slice (some ⟨b2, o2, none⟩) ksb.length bc) ∧ W.cell? ⟨b2, o2 + k * 5, none⟩ = some (.string yn) ∧ W.cell? ⟨b2, o2 + k * 5 + 1, none⟩ = some (.string ky) ∧ W.cell? ⟨b2, o2 + k * 5 + 2, none⟩ = some (.string dy) ∧
                  W.cell? ⟨b2, o2 + k * 5 + 3, none⟩ = some (.bool ey) ∧ W.cell? ⟨b2, o2 + k * 5 + 4, none⟩ = some (.slice yga ksy.length ygc)) := hidd (fun W h =>
              ⟨h.cell cb (fun e => by have := hob (w.heap.size + 1) e; omega), h.cell g0 (fun e => by have := hob b2 e; omega), h.cell g1 (fun e => by have := hob b2 e; omega), h.cell g2 (fun e => by have := hob b2 e; omega), h.cell g3 (fun e => by have := hob b2 e; omega), h.cell g4 (fun e => by have := hob b2 e; omega)⟩)
            have hln := hrel.n
            have HRL := hidd hrel
            have HYK := hidd hyk
            have hwz := hrel.bel2
            have HOB := hidd hob
            clear hDc ht hcx hdy hmy hrel g0 g1 g2 g3 g4 hyk hy0 hob HY hb2w
            go_upto_region 19 with fail
            clear ca cb
            first
              | (go_region_held3 (fun W => W.cell? ⟨w.heap.size + 1, 3, none⟩ = some (.slice (some ⟨b2, o2, none⟩) ksb.length bc) ∧ W.cell? ⟨b2, o2 + k * 5, none⟩ = some (.string yn) ∧ W.cell? ⟨b2, o2 + k * 5 + 1, none⟩ = some (.string ky) ∧ W.cell? ⟨b2, o2 + k * 5 + 2, none⟩ = some (.string dy) ∧
                  W.cell? ⟨b2, o2 + k * 5 + 3, none⟩ = some (.bool ey) ∧ W.cell? ⟨b2, o2 + k * 5 + 4, none⟩ = some (.slice yga ksy.length ygc))
                  (first | exact HSC.out _ ((Fr.refl _ _).drew) | exact HSC.out _ (((Fr.refl _ _).drew).alloc _) | exact HSC.out _ hF5)
                  (first
                    | (go_at_call 46; (with_reducible refine HNX.out.mono ?_); rintro e w4 ⟨rfl, hw4⟩; subst hw4)
                    | (refine step_append_tr (by rfl) (.tmp 100) (.tmp 116) 25 25 (by rfl) (fun g => wq.heap.size ≤ g ∨ (Value.slice va ls.length vc).ownBlock = some g) (fun g hg => by (try simp at hg); exact .inl (by omega)) 60 i0 _ 6 96 Tryz.underlying25 hi0 hz0 hz1 hz2 (by rfl) (by decide) _ _ _ (by simp [Act.eval]) ((how1.mono (fun g hg => .inr hg)).drew.alloc _) _ _ _ (by simp [Act.eval]) hs1 (by unfold maxLen; omega) (by omega) ?_; intro v5 w5 how5 hg5; have hF5 := (((Fr.refl (fun g => (Value.slice va ls.length vc).ownBlock = some g) wq).drew).alloc _).grown hg5 (fun g hg => .inl hg))))
              | fail
            obtain ⟨v5a, v5c, hv5⟩ := how5.shape
            have HR5 := hidd (HRL.out.step (cs := [⟨kAdd, t, .mk ky dy ey (.slice yga ksy.length ygc) ksy⟩]) HBI.out (((Below.refl _ _).drew).alloc (Nat.le_refl _) _) ((Fr.refl _ _).grown hg5 (fun g hg => .inl hg)) (how5.mono (fun g hg => by
              rcases hg with h1 | h1
              · omega
              · exact HOB.out g h1)) (fun c hc => by simp only [List.mem_cons, List.not_mem_nil, or_false] at hc; subst hc; exact HYK.out.ob (((Below.refl _ _).drew).alloc (Nat.le_refl _) _)) (fun F hF c hc => by simp only [List.mem_cons, List.not_mem_nil, or_false] at hc; subst hc; exact HYI.out F hF) (by rw [← HDV.out]; rfl) HDC.out HDL.out)
            clear how5 hg5 how1 hs1 hln HDC HDL HNX HRL hF5 HSC
            subst hv5
            go_wp2_with fail
            go_roundw
            case rel => exact ⟨i, k + 1, _, by omega, by omega, rfl, by go_num, HR5.out⟩
            case measure => simp [intOf]; omega
          · have e1 : Op.bytesLess xn.toList yn.toList = false := by rw [q1]; exact decide_eq_false h1
            have e2 : Op.bytesLess yn.toList xn.toList = false := by rw [q2]; exact decide_eq_false (by omega)
            have e3 : (xn.toList == yn.toList) = true := by rw [HCE.out.1 (by omega)]; exact beq_self_eq_true _
            have HC : Hid (cmpB ksa[i].1 ksb[k].1 = 0) := hidd (by rw [HCV.out]; omega)
            clear q1 q2 h1 h2
            go_upto_region 13 with fail
            go_quiet (fail)
            obtain ⟨n1, hn1⟩ : ∃ n, n = nq := ⟨_, rfl⟩
            subst hn1
            go_upto_region 14 with fail
            go_quiet (fail)
            obtain ⟨wq, hwq⟩ : ∃ W, (wr.drewN n1).drewN nq = W := ⟨_, rfl⟩
            have hbq : Below wr.heap.size wr wq := by rw [← hwq]; exact (Below.drewN _ _ _).trans (Below.drewN _ _ _)
            rw [hwq]
            have hrel := HRL.out.later hbq
            have hc := HC.out
            clear hwq hbq HRL a0 g0 ca cb HC
            have ca := hrel.ba.cell (i := 3) rfl
            have cb := hrel.bb.cell (i := 3) rfl
            simp only [Tr.v] at ca cb
            have hA := HAO.out wq hrel.bel
            obtain ⟨b1x, o1x, hex, hb1, a0, a1, a2, a3, a4⟩ := hA.at5 rfl hia
            simp only [Option.some.injEq, Addr.mk.injEq, and_true] at hex
            obtain ⟨rfl, rfl⟩ := hex
            have hxk := hA.get hia
            obtain ⟨hx12, hx1, hx0, hxm⟩ := HKA.out i hia
            have hdx := drop_szs hia
            have hmx := mapB_drop hia
            simp only [Tr.kids] at a0 a1 a2 a3 a4 hxk
            obtain ⟨x, hx⟩ : ∃ x, ksa[i] = x := ⟨_, rfl⟩
            rw [hx] at a0 a1 a2 a3 a4 hxk hx12 hx1 hx0 hxm hdx hmx
            have hcx : cmpB x.1 ksb[k].1 = 0 := by rw [← hx]; exact hc
            clear hx hA hc
            obtain ⟨xn, xt⟩ := x
            simp only at hcx a0 a1 a2 a3 a4 hxk hx12 hx1 hx0 hxm hdx hmx
            have pi1 : (0 : Int) ≤ (i : Int) := by omega
            have pi2 : (i : Int) < (ksa.length : Int) := by omega
            have pi4 : ((i : Int) == (ksa.length : Int)) = false := by rw [beq_eq_false_iff_ne]; omega
            have hA := HBO.out wq hrel.bel
            obtain ⟨b2x, o2x, hey, hb2, g0, g1, g2, g3, g4⟩ := hA.at5 rfl hkb
            simp only [Option.some.injEq, Addr.mk.injEq, and_true] at hey
            obtain ⟨rfl, rfl⟩ := hey
            have hyk := hA.get hkb
            obtain ⟨hy12, hy0⟩ := HKB.out k hkb
            have hdy := drop_szs hkb
            have hmy := mapB_drop hkb
            simp only [Tr.kids] at g0 g1 g2 g3 g4 hyk
            obtain ⟨y, hy⟩ : ∃ y, ksb[k] = y := ⟨_, rfl⟩
            have HY : Hid (ksb[k] = y) := hidd hy
            rw [hy] at g0 g1 g2 g3 g4 hyk hy12 hy0 hdy hmy
            rw [hy] at hcx
            clear hy hA
            obtain ⟨yn, yt⟩ := y
            simp only at hcx g0 g1 g2 g3 g4 hyk hy12 hy0 hdy hmy
            have qi1 : (0 : Int) ≤ (k : Int) := by omega
            have qi2 : (k : Int) < (ksb.length : Int) := by omega
            have qi4 : ((k : Int) == (ksb.length : Int)) = false := by rw [beq_eq_false_iff_ne]; omega
            obtain ⟨Dc, hDc⟩ : ∃ Dc, diffT m xt.bare yt.bare (sub p xn) = Dc := ⟨_, rfl⟩
            have HDC : Hid (diffK (diffT m) p (mapB (ksa.drop i)) (mapB (ksb.drop k)) = Dc ++ diffK (diffT m) p (mapB (ksa.drop (i + 1))) (mapB (ksb.drop (k + 1)))) := hidd (by rw [← hDc, hmx, hmy]; exact diffK_both (diffT m) p (a := (xn, xt.bare)) (b := (yn, yt.bare)) hcx)
            have HDL : Hid (Dc.length + Tr.szs (ksa.drop (i + 1)) + Tr.szs (ksb.drop (k + 1)) ≤ Tr.szs (ksa.drop i) + Tr.szs (ksb.drop k)) := hidd (by rw [← hDc, hdx, hdy]; have := diffT_len m xt.bare yt.bare (sub p xn); rw [sz_bare, sz_bare] at this; omega)
            have HYI : Hid (∀ F : Nat → Prop, (Tr.mk kDir db eb' (.slice (some ⟨b2, o2, none⟩) ksb.length bc) ksb : Lt).In F → yt.In F) := hidd (fun F h => by rw [Tr.In] at h; exact inS_iff.1 h.2 (yn, yt) (by rw [← HY.out]; exact List.getElem_mem _))
            have HNX := hidd (HNM.out xn hx12 wq.drew)
            have hzz0 := hz0
            have hz0 : Below wq.heap.size wq wq.drew := (Below.refl _ _).drew
            have HRN := hidd (HNH.out xt yt (sub p xn) wq.drew hxm hx0 hy0 (hxk.ob hz0) (hyk.ob hz0) (HPJ.out.sub hx1) (by rw [sub_size]; omega))
            rw [pathOf_sub HPJ.out, hDc] at HRN
            obtain ⟨t, ht⟩ : ∃ t, sub p xn = t := ⟨_, rfl⟩
            rw [ht] at HNX HRN
            obtain ⟨xga, xgc, hxv⟩ := hxk.shape
            obtain ⟨yga, ygc, hyv⟩ := hyk.shape
            obtain ⟨kx, dx, ex, vx, ksx⟩ := xt
            obtain ⟨ky, dy, ey, vy, ksy⟩ := yt
            simp only [Tr.v, Tr.kids, Tr.kind, Tr.data, Tr.exec] at hxv hyv g1 g2 g3 g4 a1 a2 a3 a4
            subst hxv hyv
            simp only [nval, Tr.kind, Tr.data, Tr.exec, Tr.v] at HRN
            have hw1 : w.heap.size + 1 < wq.heap.size := hrel.bel2
            have hln := hrel.n
            have HSC : Hid (∀ W, Below wq.heap.size wq W → W.cell? ⟨w.heap.size, 3, none⟩ = some (.slice (some ⟨b1, o1, none⟩) ksa.length ac) ∧ W.cell? ⟨w.heap.size + 1, 3, none⟩ = some (.slice (some ⟨b2, o2, none⟩) ksb.length bc) ∧ W.cell? ⟨b1, o1 + i * 5, none⟩ = some (.string xn) ∧
                  W.cell? ⟨b1, o1 + i * 5 + 1, none⟩ = some (.string kx) ∧ W.cell? ⟨b1, o1 + i * 5 + 2, none⟩ = some (.string dx) ∧ W.cell? ⟨b1, o1 + i * 5 + 3, none⟩ = some (.bool ex) ∧ W.cell? ⟨b1, o1 + i * 5 + 4, none⟩ = some (.slice xga ksx.length xgc) ∧
                  W.cell? ⟨b2, o2 + k * 5 + 1, none⟩ = some (.string ky) ∧ W.cell? ⟨b2, o2 + k * 5 + 2, none⟩ = some (.string dy) ∧ W.cell? ⟨b2, o2 + k * 5 + 3, none⟩ = some (.bool ey) ∧ W.cell? ⟨b2, o2 + k * 5 + 4, none⟩ = some (.slice yga ksy.length ygc)) := hidd (fun W h =>
              ⟨(h.cell (p := ⟨w.heap.size, 3, none⟩) (Nat.lt_of_succ_lt hw1)).trans ca, (h.cell (p := ⟨w.heap.size + 1, 3, none⟩) hw1).trans cb, (h.cell (p := ⟨b1, _, none⟩) hb1).trans a0, (h.cell (p := ⟨b1, _, none⟩) hb1).trans a1, (h.cell (p := ⟨b1, _, none⟩) hb1).trans a2, (h.cell (p := ⟨b1, _, none⟩) hb1).trans a3, (h.cell (p := ⟨b1, _, none⟩) hb1).trans a4,
               (h.cell (p := ⟨b2, _, none⟩) hb2).trans g1, (h.cell (p := ⟨b2, _, none⟩) hb2).trans g2, (h.cell (p := ⟨b2, _, none⟩) hb2).trans g3, (h.cell (p := ⟨b2, _, none⟩) hb2).trans g4⟩)
            have HRL := hidd hrel
            clear hDc ht hcx hdx hmx hdy hmy hrel a0 a1 a2 a3 a4 g0 g1 g2 g3 g4 ca cb hxk hyk hy0 hx0 hxm hx1 HY hw1
            go_upto_region 21 with fail
            first
              | (go_region_held3 (fun W => W.cell? ⟨w.heap.size, 3, none⟩ = some (.slice (some ⟨b1, o1, none⟩) ksa.length ac) ∧ W.cell? ⟨w.heap.size + 1, 3, none⟩ = some (.slice (some ⟨b2, o2, none⟩) ksb.length bc) ∧ W.cell? ⟨b1, o1 + i * 5, none⟩ = some (.string xn) ∧
                  W.cell? ⟨b1, o1 + i * 5 + 1, none⟩ = some (.string kx) ∧ W.cell? ⟨b1, o1 + i * 5 + 2, none⟩ = some (.string dx) ∧ W.cell? ⟨b1, o1 + i * 5 + 3, none⟩ = some (.bool ex) ∧ W.cell? ⟨b1, o1 + i * 5 + 4, none⟩ = some (.slice xga ksx.length xgc) ∧
                  W.cell? ⟨b2, o2 + k * 5 + 1, none⟩ = some (.string ky) ∧ W.cell? ⟨b2, o2 + k * 5 + 2, none⟩ = some (.string dy) ∧ W.cell? ⟨b2, o2 + k * 5 + 3, none⟩ = some (.bool ey) ∧ W.cell? ⟨b2, o2 + k * 5 + 4, none⟩ = some (.slice yga ksy.length ygc))
                  (first | exact HSC.out _ hz0 | exact HSC.out _ hz6)
                  (first
                    | (go_at_call 46; (with_reducible refine HNX.out.mono ?_); rintro e w4 ⟨rfl, hw4⟩; subst hw4)
                    | (go_at_call 29; (with_reducible refine HRN.out.mono ?_); rintro e w6 ⟨ls6, v6, rfl, hch6, hm6, hi6, hb6⟩; have hz6 := hz0.trans hb6)))
              | fail
            have HM6 : Hid (ls6.length = Dc.length) := hidd (by rw [← hm6, List.length_map])
            have h6n : ls.length + ls6.length ≤ 100000 := by have := HDL.out; have := HM6.out; have := hln; simp only [Tr.kids] at this; omega
            obtain ⟨v6a, v6c, hv6, -⟩ := id hch6.sl
            have hs1 := Src.sl (P := Tryz.prog) (tx := 25) Tryz.underlying25 hch6.sl (chcells_one (fun c hc => hch6.ok c hc))
            have hrl6 := HRL.out.later hz6
            have how1 := hrl6.ri.ow
            have HRL6 := hidd hrl6
            have HCH := hidd hch6
            have HM7 := hidd hm6
            have HI6 := hidd hi6
            have hb2w := hrl6.bel2
            clear hrl6 hch6 hm6 hi6 hb6 hz6 hz0 hln HRL HSC HRN HNX
            subst hv6
            go_wp2_with (at_builtin; refine wpList_append_ow _ rfl _ _ 25 25 rfl (fun g => w.heap.size + 2 ≤ g) ?cF 60 i0 _ 6 96 Tryz.underlying25 hi0 hzz0 hz1 hz2 rfl (by decide) _ _ _ rfl how1 _ _ _ rfl hs1 ?c3 ?c4 ?_)
            case cF => intro g hg; have hg' : w6.heap.size ≤ g := hg; omega
            case c3 => unfold maxLen; omega
            case c4 => omega
            intro v5 w5 how5 hg5
            obtain ⟨v5a, v5c, hv5⟩ := how5.shape
            have HR5 := hidd (HRL6.out.step (cs := ls6) HBI.out (Below.refl _ _) ((Fr.refl _ _).grown hg5 (fun g hg => .inl hg)) how5 HCH.out.ok (fun F hF => HI6.out F (HYI.out F hF)) HM7.out HDC.out HDL.out)
            clear how5 hg5 how1 hs1 HDC HDL HRL6 HCH
            subst hv5
            go_wp2_with fail
            go_roundw
            case rel => exact ⟨i + 1, k + 1, _, by omega, by omega, by go_num, by go_num, HR5.out⟩
            case measure => simp [intOf]; omega
      · obtain rfl : k = ksb.length := by omega
        have hA := HAO.out wr hrel.bel
        obtain ⟨b1, o1, rfl, hb1, a0, a1, a2, a3, a4⟩ := hA.at5 rfl hia
        have hxk := hA.get hia
        obtain ⟨hx12, hx1, hx0, hxm⟩ := HKA.out i hia
        have hdx := drop_szs hia
        have hmx := mapB_drop hia
        simp only [Tr.kids] at a0 a1 a2 a3 a4 hxk
        obtain ⟨x, hx⟩ : ∃ x, ksa[i] = x := ⟨_, rfl⟩
        rw [hx] at a0 a1 a2 a3 a4 hxk hx12 hx1 hx0 hxm hdx hmx
        clear hx hA
        obtain ⟨xn, xt⟩ := x
        simp only at a0 a1 a2 a3 a4 hxk hx12 hx1 hx0 hxm hdx hmx
        have pi1 : (0 : Int) ≤ (i : Int) := by omega
        have pi2 : (i : Int) < (ksa.length : Int) := by omega
        have pi4 : ((i : Int) == (ksa.length : Int)) = false := by rw [beq_eq_false_iff_ne]; omega
        have qi2 : ¬ ((ksb.length : Int) < (ksb.length : Int)) := by omega
        have qi4 : ((ksb.length : Int) == (ksb.length : Int)) = true := beq_self_eq_true _
        obtain ⟨Dc, hDc⟩ : ∃ Dc, [(⟨kDrop, sub p xn, NdZ⟩ : Ch Unit)] = Dc := ⟨_, rfl⟩
        have HDC : Hid (diffK (diffT m) p (mapB (ksa.drop i)) (mapB (ksb.drop ksb.length)) = Dc ++ diffK (diffT m) p (mapB (ksa.drop (i + 1))) (mapB (ksb.drop ksb.length))) := hidd (by rw [← hDc, hmx]; exact diffK_left (diffT m) p (a := (xn, xt.bare)) (fun b ys' e => by rw [mapB_end (Nat.le_refl _)] at e; cases e))
        have HDL : Hid (Dc.length + Tr.szs (ksa.drop (i + 1)) + Tr.szs (ksb.drop ksb.length) ≤ Tr.szs (ksa.drop i) + Tr.szs (ksb.drop ksb.length)) := hidd (by rw [← hDc, hdx]; have := Tr.sz_kids xt; simp only [List.length_cons, List.length_nil]; omega)
        have HDV := hidd hDc
        have HNX := hidd (HNM.out xn hx12 wr)
        obtain ⟨t, ht⟩ : ∃ t, sub p xn = t := ⟨_, rfl⟩
        rw [ht] at HNX HDV
        have how1 := hrel.ri.ow.alloc (.cells [Value.string ⟨#[100, 114, 111, 112]⟩, .string t, .string ⟨#[]⟩, .string ⟨#[]⟩, .bool false, .slice none 0 0].toArray 60)
        have hs1 := Src.new (P := Tryz.prog) (size := 6) (tx := 25) Tryz.underlying25 wr wr.heap.size rfl [.string ⟨#[100, 114, 111, 112]⟩, .string t, .string ⟨#[]⟩, .string ⟨#[]⟩, .bool false, .slice none 0 0] 60 rfl (by intro u hu; simp only [List.mem_cons, List.not_mem_nil, or_false] at hu; rcases hu with rfl | rfl | rfl | rfl | rfl | rfl <;> rfl) 1
        have hln := hrel.n
        have HRL := hidd hrel
        have hwz := hrel.bel.size
        clear hDc ht hdx hmx hrel a1 a2 a3 a4 hxk hx1 hx0 hxm HR
        go_wp2_with fail
        refine HNX.out.mono ?_
        rintro e w4 ⟨rfl, hw4⟩
        subst hw4
        go_wp2_with (at_builtin; refine wpList_append_ow _ rfl _ _ 25 25 rfl (fun g => w.heap.size + 2 ≤ g) ?cF 60 i0 _ 6 96 Tryz.underlying25 hi0 hz0 hz1 hz2 rfl (by decide) _ _ _ rfl how1 _ _ _ rfl hs1 ?c3 ?c4 ?_)
        case cF => intro g hg; have := HRL.out.bel2; simp at hg; omega
        case c3 => unfold maxLen; omega
        case c4 => omega
        intro v5 w5 how5 hg5
        obtain ⟨v5a, v5c, hv5⟩ := how5.shape
        have HR5 := hidd (HRL.out.step (cs := [⟨kDrop, t, zLt⟩]) HBI.out ((Below.refl _ _).alloc (Nat.le_refl _) _) ((Fr.refl _ _).grown hg5 (fun g hg => .inl hg)) how5 (fun c hc => by simp only [List.mem_cons, List.not_mem_nil, or_false] at hc; subst hc; exact zLt_ok _) (fun F _ c hc => by simp only [List.mem_cons, List.not_mem_nil, or_false] at hc; subst hc; exact zLt_in _) (by rw [← HDV.out, ← zLt_bare]; rfl) HDC.out HDL.out)
        clear how5 hg5 how1 hs1 ca cb a0 hln HDC HDL HNX HRL
        subst hv5
        go_wp2_with fail
        go_roundw
        case rel => exact ⟨i + 1, ksb.length, _, by omega, by omega, by go_num, rfl, HR5.out⟩
        case measure => simp [intOf]; omega
    · obtain rfl : i = ksa.length := by omega
      by_cases hkb : k < ksb.length
      · skip
        have hA := HBO.out wr hrel.bel
        obtain ⟨b2, o2, rfl, hb2, g0, g1, g2, g3, g4⟩ := hA.at5 rfl hkb
        have hyk := hA.get hkb
        obtain ⟨hy12, hy0⟩ := HKB.out k hkb
        have hdy := drop_szs hkb
        have hmy := mapB_drop hkb
        simp only [Tr.kids] at g0 g1 g2 g3 g4 hyk
        obtain ⟨y, hy⟩ : ∃ y, ksb[k] = y := ⟨_, rfl⟩
        have HY : Hid (ksb[k] = y) := hidd hy
        rw [hy] at g0 g1 g2 g3 g4 hyk hy12 hy0 hdy hmy
        clear hy hA
        obtain ⟨yn, yt⟩ := y
        simp only at g0 g1 g2 g3 g4 hyk hy12 hy0 hdy hmy
        have qi1 : (0 : Int) ≤ (k : Int) := by omega
        have qi2 : (k : Int) < (ksb.length : Int) := by omega
        have qi4 : ((k : Int) == (ksb.length : Int)) = false := by rw [beq_eq_false_iff_ne]; omega
        have pi2 : ¬ ((ksa.length : Int) < (ksa.length : Int)) := by omega
        have pi4 : ((ksa.length : Int) == (ksa.length : Int)) = true := beq_self_eq_true _
        obtain ⟨Dc, hDc⟩ : ∃ Dc, [(⟨kAdd, sub p yn, yt.bare⟩ : Ch Unit)] = Dc := ⟨_, rfl⟩
        have HDC : Hid (diffK (diffT m) p (mapB (ksa.drop ksa.length)) (mapB (ksb.drop k)) = Dc ++ diffK (diffT m) p (mapB (ksa.drop ksa.length)) (mapB (ksb.drop (k + 1)))) := hidd (by rw [← hDc, hmy]; exact diffK_right (diffT m) p (b := (yn, yt.bare)) (fun b ys' e => by rw [mapB_end (Nat.le_refl _)] at e; cases e))
        have HDL : Hid (Dc.length + Tr.szs (ksa.drop ksa.length) + Tr.szs (ksb.drop (k + 1)) ≤ Tr.szs (ksa.drop ksa.length) + Tr.szs (ksb.drop k)) := hidd (by rw [← hDc, hdy]; have := Tr.sz_kids yt; simp only [List.length_cons, List.length_nil]; omega)
        have HYI : Hid (∀ F : Nat → Prop, (Tr.mk kDir db eb' (.slice (some ⟨b2, o2, none⟩) ksb.length bc) ksb : Lt).In F → yt.In F) := hidd (fun F h => by rw [Tr.In] at h; exact inS_iff.1 h.2 (yn, yt) (by rw [← HY.out]; exact List.getElem_mem _))
        have hb2w : b2 < w.heap.size := by have h := HBI.out; rw [Tr.In] at h; exact h.1 (fun e => by rw [e] at hkb; simp at hkb) b2 rfl
        have HDV := hidd hDc
        have HNX := hidd (HNM.out yn hy12 wr.drew)
        obtain ⟨t, ht⟩ : ∃ t, sub p yn = t := ⟨_, rfl⟩
        rw [ht] at HNX HDV
        obtain ⟨yga, ygc, hyv⟩ := hyk.shape
        obtain ⟨ky, dy, ey, vy, ksy⟩ := yt
        simp only [Tr.v, Tr.kids, Tr.kind, Tr.data, Tr.exec] at hyv g1 g2 g3 g4
        subst hyv
        have how1 := hrel.ri.ow.self
        have hob : ∀ g, (Value.slice va ls.length vc).ownBlock = some g → w.heap.size + 2 ≤ g := fun g e => (hrel.ri.ow.blk g e).1
        have hs1 := Src.new (P := Tryz.prog) (size := 6) (tx := 25) Tryz.underlying25 wr.drew wr.heap.size rfl [.string ⟨#[97, 100, 100]⟩, .string t, .string ky, .string dy, .bool ey, .slice yga ksy.length ygc] 60 rfl (by intro u hu; simp only [List.mem_cons, List.not_mem_nil, or_false] at hu; rcases hu with rfl | rfl | rfl | rfl | rfl | rfl <;> rfl) 1
        have HSC : Hid (∀ W, Fr (fun g => (Value.slice va ls.length vc).ownBlock = some g) wr W → W.cell? ⟨w.heap.size + 1, 3, none⟩ = some (.slice (some ⟨b2, o2, none⟩) ksb.length bc) ∧ W.cell? ⟨b2, o2 + k * 5, none⟩ = some (.string yn) ∧ W.cell? ⟨b2, o2 + k * 5 + 1, none⟩ = some (.string ky) ∧ W.cell? ⟨b2, o2 + k * 5 + 2, none⟩ = some (.string dy) ∧
              W.cell? ⟨b2, o2 + k * 5 + 3, none⟩ = some (.bool ey) ∧ W.cell? ⟨b2, o2 + k * 5 + 4, none⟩ = some (.slice yga ksy.length ygc)) := hidd (fun W h =>
          ⟨h.cell cb (fun e => by have := hob (w.heap.size + 1) e; omega), h.cell g0 (fun e => by have := hob b2 e; omega), h.cell g1 (fun e => by have := hob b2 e; omega), h.cell g2 (fun e => by have := hob b2 e; omega), h.cell g3 (fun e => by have := hob b2 e; omega), h.cell g4 (fun e => by have := hob b2 e; omega)⟩)
        have hln := hrel.n
        have HRL := hidd hrel
        have HYK := hidd hyk
        have hwz := hrel.bel2
        have HOB := hidd hob
        clear hDc ht hdy hmy hrel g0 g1 g2 g3 g4 hyk hy0 HR hob HY hb2w
        go_upto_region 19 with fail
        clear ca cb
        first
          | (go_region_held3 (fun W => W.cell? ⟨w.heap.size + 1, 3, none⟩ = some (.slice (some ⟨b2, o2, none⟩) ksb.length bc) ∧ W.cell? ⟨b2, o2 + k * 5, none⟩ = some (.string yn) ∧ W.cell? ⟨b2, o2 + k * 5 + 1, none⟩ = some (.string ky) ∧ W.cell? ⟨b2, o2 + k * 5 + 2, none⟩ = some (.string dy) ∧
              W.cell? ⟨b2, o2 + k * 5 + 3, none⟩ = some (.bool ey) ∧ W.cell? ⟨b2, o2 + k * 5 + 4, none⟩ = some (.slice yga ksy.length ygc))
              (first | exact HSC.out _ ((Fr.refl _ _).drew) | exact HSC.out _ (((Fr.refl _ _).drew).alloc _) | exact HSC.out _ hF5)
              (first
                | (go_at_call 46; (with_reducible refine HNX.out.mono ?_); rintro e w4 ⟨rfl, hw4⟩; subst hw4)
                | (refine step_append_tr (by rfl) (.tmp 100) (.tmp 116) 25 25 (by rfl) (fun g => wr.heap.size ≤ g ∨ (Value.slice va ls.length vc).ownBlock = some g) (fun g hg => by (try simp at hg); exact .inl (by omega)) 60 i0 _ 6 96 Tryz.underlying25 hi0 hz0 hz1 hz2 (by rfl) (by decide) _ _ _ (by simp [Act.eval]) ((how1.mono (fun g hg => .inr hg)).drew.alloc _) _ _ _ (by simp [Act.eval]) hs1 (by unfold maxLen; omega) (by omega) ?_; intro v5 w5 how5 hg5; have hF5 := (((Fr.refl (fun g => (Value.slice va ls.length vc).ownBlock = some g) wr).drew).alloc _).grown hg5 (fun g hg => .inl hg))))
          | fail
        obtain ⟨v5a, v5c, hv5⟩ := how5.shape
        have HR5 := hidd (HRL.out.step (cs := [⟨kAdd, t, .mk ky dy ey (.slice yga ksy.length ygc) ksy⟩]) HBI.out (((Below.refl _ _).drew).alloc (Nat.le_refl _) _) ((Fr.refl _ _).grown hg5 (fun g hg => .inl hg)) (how5.mono (fun g hg => by
          rcases hg with h1 | h1
          · omega
          · exact HOB.out g h1)) (fun c hc => by simp only [List.mem_cons, List.not_mem_nil, or_false] at hc; subst hc; exact HYK.out.ob (((Below.refl _ _).drew).alloc (Nat.le_refl _) _)) (fun F hF c hc => by simp only [List.mem_cons, List.not_mem_nil, or_false] at hc; subst hc; exact HYI.out F hF) (by rw [← HDV.out]; rfl) HDC.out HDL.out)
        clear how5 hg5 how1 hs1 hln HDC HDL HNX HRL hF5 HSC
        subst hv5
        go_wp2_with fail
        go_roundw
        case rel => exact ⟨ksa.length, k + 1, _, by omega, by omega, rfl, by go_num, HR5.out⟩
        case measure => simp [intOf]; omega
      · obtain rfl : k = ksb.length := by omega
        have hd := hrel.d
        simp only [Tr.kids] at hd
        rw [mapB_end (Nat.le_refl _), mapB_end (Nat.le_refl _), diffK_nil, List.append_nil] at hd
        have HF : Hid (RdP (.mk kDir db eb' (.slice ba ksb.length bc) ksb) D w (.returned (.slice va ls.length vc)) wr) := hidd ⟨ls, _, rfl, ⟨hrel.ri.ow.sl, hrel.ri.ok⟩, hd, hrel.ri.sub, hrel.bel⟩
        clear hd hrel HR
        go_wp2_with fail
        go_ret
        exact HF.out

set_option maxRecDepth 100000 in
set_option maxHeartbeats 40000000 in
theorem rdiff_step (m : Nat) (hN : RdH m) : RdH (m + 1) := by
  intro a b p w hm ha0 hb0 ha hb hpj hp
  by_cases hdd : a.bare ≠ b.bare ∧ a.kind = kDir ∧ b.kind = kDir
  · exact rdiff_dirs m hN a b p w hm ha0 hb0 ha hb hpj hp hdd.1 hdd.2.1 hdd.2.2
  obtain ⟨aa, ac, hav⟩ := ha.shape
  obtain ⟨ba, bc, hbv⟩ := hb.shape
  have hB2 := two_below w #[.string a.kind, .string a.data, .bool a.exec, a.v] #[.string b.kind, .string b.data, .bool b.exec, b.v] 24
  have hq1 := (Blk.new w [.string a.kind, .string a.data, .bool a.exec, a.v] 24).alloc (.cells #[.string b.kind, .string b.data, .bool b.exec, b.v] 24)
  have hq2 := Blk.new (w.alloc (.cells #[.string a.kind, .string a.data, .bool a.exec, a.v] 24)) [.string b.kind, .string b.data, .bool b.exec, b.v] 24
  rw [show (w.alloc (.cells #[.string a.kind, .string a.data, .bool a.exec, a.v] 24)).heap.size = w.heap.size + 1 by simp] at hq2
  have ha2 := ha.ob hB2
  have hb2 := hb.ob hB2
  have hz2 := hB2.size
  have HB2 := hidd hB2
  obtain ⟨s, hs⟩ : ∃ s, pathOf p = s := ⟨_, rfl⟩
  have HSV := hidd hs
  by_cases hsm : a.bare = b.bare
  · have HS := hidd (sameTree_any _ a b _ true (Nat.le_refl _) ha2 hb2 ⟨fun _ => hsm, fun _ => rfl⟩)
    have HD : Hid (diffT (m + 1) a.bare b.bare p = []) := hidd (by rw [hsm, diffT_same])
    unfold nval at HS ⊢
    rw [hs]
    obtain ⟨ka, da, ea', va, ksa⟩ := a
    obtain ⟨kb, db, eb', vb, ksb⟩ := b
    simp only [Tr.v, Tr.kids, Tr.kind, Tr.data, Tr.exec] at hav hbv HS ⊢
    subst hav hbv
    clear ha hb ha2 hb2 hB2 hsm hq1 hq2 hs hdd ha0 hb0
    go_enter Tryz.func29, Tryz.ntmps29
    go_wp2_with fail
    refine HS.out.mono ?_
    rintro e w3 ⟨rfl, hb3⟩
    have HB3 := hidd (HB2.out.trans (hb3.mono hz2))
    clear hb3
    go_wp2_with fail
    go_ret
    exact ⟨[], _, rfl, ⟨Sl.nil _ _, fun c hc => by cases hc⟩, HD.out.symm, fun F _ c hc => (by cases hc), HB3.out⟩
  · have HS := hidd (sameTree_any _ a b _ false (Nat.le_refl _) ha2 hb2 ⟨fun h => (by cases h), fun h => absurd h hsm⟩)
    have hnd : ¬ (a.kind = kDir ∧ b.kind = kDir) := fun h => hdd ⟨hsm, h⟩
    have HD : Hid (diffT (m + 1) a.bare b.bare p = [⟨kEdit, pathOf p, b.bare⟩]) := hidd (diffT_edit hsm (by rw [show a.bare.kind = a.kind from Tr.kind_map _ a, show b.bare.kind = b.kind from Tr.kind_map _ b]; exact hnd))
    have HBO := hidd (fun W (h : Below w.heap.size w W) => hb.ob h)
    unfold nval at HS ⊢
    rw [hs]
    obtain ⟨ka, da, ea', va, ksa⟩ := a
    obtain ⟨kb, db, eb', vb, ksb⟩ := b
    simp only [Tr.v, Tr.kids, Tr.kind, Tr.data, Tr.exec] at hav hbv HS hnd hq1 hq2 ⊢
    subst hav hbv
    clear ha hb ha2 hb2 hB2 hsm hs hdd ha0 hb0
    by_cases hka : ka = kDir
    · have e1 : (ka.toList == [100, 105, 114]) = true := by rw [hka, kDir_list]; rfl
      have e2 : (kb.toList == [100, 105, 114]) = false := by rw [← kDir_list]; exact beq_str (fun h => hnd ⟨hka, h⟩)
      clear hnd hka
      go_enter Tryz.func29, Tryz.ntmps29
      go_wp2_with fail
      refine HS.out.mono ?_
      rintro e w3 ⟨rfl, hb3⟩
      have hk1 := hq1.below hb3 hq1.lt
      have hk2 := hq2.below hb3 hq2.lt
      have c0 := hk1.cell (i := 0) rfl
      have d0 := hk2.cell (i := 0) rfl
      have d1 := hk2.cell (i := 1) rfl
      have d2 := hk2.cell (i := 2) rfl
      have d3 := hk2.cell (i := 3) rfl
      have hB3 := HB2.out.trans (hb3.mono hz2)
      have hB4 := hB3.trans (((Below.refl w3.heap.size w3).alloc (Nat.le_refl _) (.cells [Value.string ⟨#[101, 100, 105, 116]⟩, .string s, .string kb, .string db, .bool eb', .slice ba ksb.length bc].toArray 60)).mono hB3.size)
      have HP : Hid (RdP (.mk kb db eb' (.slice ba ksb.length bc) ksb) (diffT (m + 1) (Tr.mk ka da ea' (.slice aa ksa.length ac) ksa : Lt).bare (Tr.mk kb db eb' (.slice ba ksb.length bc) ksb : Lt).bare p) w (.returned (.slice (some ⟨w3.heap.size, 0, none⟩) 1 1)) (w3.alloc (.cells [Value.string ⟨#[101, 100, 105, 116]⟩, .string s, .string kb, .string db, .bool eb', .slice ba ksb.length bc].toArray 60))) := hidd
        ⟨[⟨kEdit, s, .mk kb db eb' (.slice ba ksb.length bc) ksb⟩], _, rfl, ⟨sl_of_blk (Blk.new w3 _ _) rfl (by unfold maxLen; omega), fun c hc => by simp only [List.mem_cons, List.not_mem_nil, or_false] at hc; subst hc; exact HBO.out _ hB4⟩, by rw [HD.out, HSV.out]; rfl, fun F hF c hc => by simp only [List.mem_cons, List.not_mem_nil, or_false] at hc; subst hc; exact hF, hB4⟩
      clear hb3 hB3 hB4 hk1 hk2 hq1 hq2
      go_wp2_with fail
      go_ret
      exact HP.out
    · have e1 : (ka.toList == [100, 105, 114]) = false := by rw [← kDir_list]; exact beq_str hka
      clear hnd hka
      go_enter Tryz.func29, Tryz.ntmps29
      go_wp2_with fail
      refine HS.out.mono ?_
      rintro e w3 ⟨rfl, hb3⟩
      have hk1 := hq1.below hb3 hq1.lt
      have hk2 := hq2.below hb3 hq2.lt
      have c0 := hk1.cell (i := 0) rfl
      have d0 := hk2.cell (i := 0) rfl
      have d1 := hk2.cell (i := 1) rfl
      have d2 := hk2.cell (i := 2) rfl
      have d3 := hk2.cell (i := 3) rfl
      have hB3 := HB2.out.trans (hb3.mono hz2)
      have hB4 := hB3.trans (((Below.refl w3.heap.size w3).alloc (Nat.le_refl _) (.cells [Value.string ⟨#[101, 100, 105, 116]⟩, .string s, .string kb, .string db, .bool eb', .slice ba ksb.length bc].toArray 60)).mono hB3.size)
      have HP : Hid (RdP (.mk kb db eb' (.slice ba ksb.length bc) ksb) (diffT (m + 1) (Tr.mk ka da ea' (.slice aa ksa.length ac) ksa : Lt).bare (Tr.mk kb db eb' (.slice ba ksb.length bc) ksb : Lt).bare p) w (.returned (.slice (some ⟨w3.heap.size, 0, none⟩) 1 1)) (w3.alloc (.cells [Value.string ⟨#[101, 100, 105, 116]⟩, .string s, .string kb, .string db, .bool eb', .slice ba ksb.length bc].toArray 60))) := hidd
        ⟨[⟨kEdit, s, .mk kb db eb' (.slice ba ksb.length bc) ksb⟩], _, rfl, ⟨sl_of_blk (Blk.new w3 _ _) rfl (by unfold maxLen; omega), fun c hc => by simp only [List.mem_cons, List.not_mem_nil, or_false] at hc; subst hc; exact HBO.out _ hB4⟩, by rw [HD.out, HSV.out]; rfl, fun F hF c hc => by simp only [List.mem_cons, List.not_mem_nil, or_false] at hc; subst hc; exact hF, hB4⟩
      clear hb3 hB3 hB4 hk1 hk2 hq1 hq2
      go_wp2_with fail
      go_ret
      exact HP.out
end Go.Proofs.YtoaedkinlnkkhaaGreatDoor

namespace Go.Proofs.YtoaedkinlnkkhaaGreatDoor
open Go.RowKit Go.Shelf
theorem rd_h : ∀ m, RdH m
  | 0 => fun a _ _ _ hm => by have := Tr.sz_kids a; omega
  | m + 1 => rdiff_step m (rd_h m)
/-- What the reference's DiffOf gives. -/
def RdfP (a b : Nd) (w : World) (e : Ending) (w' : World) : Prop :=
  Below w.heap.size w w' ∧ ((∃ c : Nat, (c = treeE a ∨ treeE a = 0 ∧ c = treeE b) ∧ c ≠ 0 ∧ c ≤ 10 ∧ e = .returned (.tuple #[.slice none 0 0, .int .i64 (c : Int)])) ∨
    (∃ (ls : List (Ch Value)) (v : Value), treeE a = 0 ∧ treeE b = 0 ∧ e = .returned (.tuple #[v, .int .i64 0]) ∧ ls.map Ch.bare = diffOf a b ∧ ChI ls v w'))

set_option maxRecDepth 100000 in
set_option maxHeartbeats 40000000 in
theorem rdiffOf_any (a b : Lt) (w : World) (ha : a.Ok w) (hb : b.Ok w) :
    Calls Tryz.prog 10 #[nval a, nval b] w (RdfP a.bare b.bare w) := by
  obtain ⟨aa, ac, hav⟩ := ha.shape
  obtain ⟨ba, bc, hbv⟩ := hb.shape
  have hB2 := two_below w #[.string a.kind, .string a.data, .bool a.exec, a.v] #[.string b.kind, .string b.data, .bool b.exec, b.v] 24
  have hq1 := (Blk.new w [.string a.kind, .string a.data, .bool a.exec, a.v] 24).alloc (.cells #[.string b.kind, .string b.data, .bool b.exec, b.v] 24)
  have hq2 := Blk.new (w.alloc (.cells #[.string a.kind, .string a.data, .bool a.exec, a.v] 24)) [.string b.kind, .string b.data, .bool b.exec, b.v] 24
  rw [show (w.alloc (.cells #[.string a.kind, .string a.data, .bool a.exec, a.v] 24)).heap.size = w.heap.size + 1 by simp] at hq2
  have HBA : Hid (treeE a.bare = treeE a) := hidd (treeE_map _ a)
  have HBB : Hid (treeE b.bare = treeE b) := hidd (treeE_map _ b)
  have HCA := hidd (fun W (hW : Below w.heap.size w W) => treeErr_any a W (ha.ob hW))
  have HCB := hidd (fun W (hW : Below w.heap.size w W) => treeErr_any b W (hb.ob hW))
  have hbd : treeE a ≤ 10 := scan_bd _ _
  have hbd2 : treeE b ≤ 10 := scan_bd _ _
  have HB2 := hidd hB2
  have hz2 := hB2.size
  have HND := hidd (fun W (hW : Below w.heap.size w W) h0 h1 => rd_h 200 a b ⟨#[]⟩ W (right_sz h0) h0 h1 (ha.ob hW) (hb.ob hW) PJ.nil (by decide))
  unfold nval at HCA HCB HND ⊢
  obtain ⟨ka, da, ea, va, ksa⟩ := a
  obtain ⟨kb, db, eb, vb, ksb⟩ := b
  simp only [Tr.v, Tr.kids] at hav hbv
  subst hav hbv
  simp only [Tr.kind, Tr.data, Tr.exec, Tr.v] at hq1 hq2 HCA HCB HND HB2 hz2 ⊢
  clear ha hb hB2
  by_cases h0 : treeE (Tr.mk ka da ea (.slice aa ksa.length ac) ksa : Lt) = 0
  · by_cases h1 : treeE (Tr.mk kb db eb (.slice ba ksb.length bc) ksb : Lt) = 0
    · have HNE := hidd (fun W hW => HND.out W hW h0 h1)
      rw [pathOf_nil] at HNE
      have HE0 := hidd h0
      have HE1 := hidd h1
      rw [h0] at HCA
      rw [h1] at HCB
      clear h0 h1 hbd hbd2 HND
      go_enter Tryz.func10, Tryz.ntmps10
      go_wp2_with fail
      refine (HCA.out _ HB2.out).mono ?_
      rintro e w3 ⟨rfl, hb3⟩
      have hB3 := HB2.out.trans (hb3.mono hz2)
      have HK1 := hidd (hq1.below hb3 hq1.lt)
      have HK2 := hidd (hq2.below hb3 hq2.lt)
      have d0 := HK2.out.cell (i := 0) rfl
      have d1 := HK2.out.cell (i := 1) rfl
      have d2 := HK2.out.cell (i := 2) rfl
      have d3 := HK2.out.cell (i := 3) rfl
      have HB3 := hidd hB3
      clear hb3 hB3 hq1 hq2 hz2 HCA
      go_wp2_with fail
      refine (HCB.out _ HB3.out).mono ?_
      rintro e w4 ⟨rfl, hb4⟩
      have hB4 := HB3.out.trans (hb4.mono HB3.out.size)
      have hk1 := HK1.out.below hb4 HK1.out.lt
      have hk2 := HK2.out.below hb4 HK2.out.lt
      have HC := hidd (HNE.out _ hB4)
      clear d0 d1 d2 d3
      have c0 := hk1.cell (i := 0) rfl
      have c1 := hk1.cell (i := 1) rfl
      have c2 := hk1.cell (i := 2) rfl
      have c3 := hk1.cell (i := 3) rfl
      have d0 := hk2.cell (i := 0) rfl
      have d1 := hk2.cell (i := 1) rfl
      have d2 := hk2.cell (i := 2) rfl
      have d3 := hk2.cell (i := 3) rfl
      have HB4 := hidd hB4
      clear hb4 hB4 hk1 hk2 HNE HK1 HK2 HB3 HCB
      go_wp2_with fail
      refine HC.out.mono ?_
      rintro e w5 ⟨ls, v, rfl, hch, hm, -, hb5⟩
      have HR : Hid (RdfP (Tr.mk ka da ea (.slice aa ksa.length ac) ksa : Lt).bare (Tr.mk kb db eb (.slice ba ksb.length bc) ksb : Lt).bare w (.returned (.tuple #[v, .int .i64 0])) w5) := hidd ⟨HB4.out.trans (hb5.mono HB4.out.size), .inr ⟨ls, v, HBA.out.trans HE0.out, HBB.out.trans HE1.out, rfl, hm, hch⟩⟩
      clear hch hm hb5 c0 c1 c2 c3 d0 d1 d2 d3
      go_wp2_with fail
      go_ret2
      exact HR.out
    · rw [h0] at HCA
      obtain ⟨cc, hcc⟩ : ∃ c, treeE (Tr.mk kb db eb (.slice ba ksb.length bc) ksb : Lt) = c := ⟨_, rfl⟩
      have HCC := hidd (HBB.out.trans hcc)
      have HE0 := hidd (HBA.out.trans h0)
      rw [hcc] at HCB h1 hbd2
      have HC0 := hidd h1
      have g1 : decide (0 < (cc : Int)) = true := decide_eq_true (by omega)
      have g2 : decide (0 < cc) = true := decide_eq_true (by omega)
      have g3 : 0 < cc := by omega
      clear h0 h1 hcc hbd HND
      go_enter Tryz.func10, Tryz.ntmps10
      go_wp2_with fail
      refine (HCA.out _ HB2.out).mono ?_
      rintro e w3 ⟨rfl, hb3⟩
      have hB3 := HB2.out.trans (hb3.mono hz2)
      have HK2 := hidd (hq2.below hb3 hq2.lt)
      have d0 := HK2.out.cell (i := 0) rfl
      have d1 := HK2.out.cell (i := 1) rfl
      have d2 := HK2.out.cell (i := 2) rfl
      have d3 := HK2.out.cell (i := 3) rfl
      have HB3 := hidd hB3
      clear hb3 hB3 hq1 hq2 hz2 HCA
      go_wp2_with fail
      refine (HCB.out _ HB3.out).mono ?_
      rintro e w4 ⟨rfl, hb4⟩
      have HB4 := hidd (HB3.out.trans (hb4.mono HB3.out.size))
      clear hb4 d0 d1 d2 d3 HK2 HB3 HCB
      go_wp2_with fail
      go_ret2
      exact ⟨HB4.out, .inl ⟨cc, .inr ⟨HE0.out, HCC.out.symm⟩, HC0.out, hbd2, rfl⟩⟩
  · obtain ⟨cc, hcc⟩ : ∃ c, treeE (Tr.mk ka da ea (.slice aa ksa.length ac) ksa : Lt) = c := ⟨_, rfl⟩
    have HCC := hidd (HBA.out.trans hcc)
    rw [hcc] at HCA h0 hbd
    have HC0 := hidd h0
    have g1 : decide (0 < (cc : Int)) = true := decide_eq_true (by omega)
    have g2 : decide (0 < cc) = true := decide_eq_true (by omega)
    have g3 : 0 < cc := by omega
    have g4 : ((cc : Int) == 0) = false := by rw [beq_eq_false_iff_ne]; omega
    clear h0 hcc hbd2 HND HCB
    go_enter Tryz.func10, Tryz.ntmps10
    go_wp2_with fail
    refine (HCA.out _ HB2.out).mono ?_
    rintro e w3 ⟨rfl, hb3⟩
    have HB3 := hidd (HB2.out.trans (hb3.mono hz2))
    clear hb3 hq1 hq2 hz2 HCA
    go_wp2_with fail
    go_ret2
    exact ⟨HB3.out, .inl ⟨cc, .inl HCC.out.symm, HC0.out, hbd, rfl⟩⟩
end Go.Proofs.YtoaedkinlnkkhaaGreatDoor
