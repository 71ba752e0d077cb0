/- What is saved by links, in plain words: one file that becomes an alike one never saves less. No condition. · Dirs in plain words (bare trees, filled trees, counts of links) and in memory: their block, their trees, the maps of their files. No condition. · What dirs read: the errors, Table, Inode, Read, Stat and alike. Condition: the dirs are there. -/
import Derived.Test.YtoemahhpheobkaaGreatDoorIn6
import Derived.Test.YtoemahhpheobkaaGreatDoorPaF
import Derived.Test.YtoemahhpheobkaaGreatDoorScA
import Derived.Test.YtoemahhpheobkaaGreatDoorMv
namespace Go.Proofs.YtoemahhpheobkaaGreatDoor
open Go.RowKit

/-- What one inode saves. -/
def savI (o : Option Ino) : Nat := match o with | some x => (x.links - 1) * x.bl.length | none => 0
/-- What the first K inodes save. -/
def savT (T : Nat → Option Ino) : Nat → Nat
  | 0 => 0
  | K + 1 => savT T K + savI (T K)
theorem savT_far (T : Nat → Option Ino) (k : Nat) (o : Option Ino) : ∀ K, K ≤ k → savT (upd T k o) K = savT T K
  | 0, _ => rfl
  | K + 1, h => by rw [savT, savT, savT_far T k o K (by omega), upd_other _ _ _ (by omega)]
theorem savT_upd (T : Nat → Option Ino) (k : Nat) (o : Option Ino) : ∀ K, k < K → savT (upd T k o) K + savI (T k) = savT T K + savI o
  | 0, h => by omega
  | K + 1, h => by
    rw [savT, savT]
    by_cases e : k = K
    · subst e
      rw [savT_far T k o k (Nat.le_refl _), upd_same]
      omega
    · have := savT_upd T k o K (by omega)
      rw [upd_other _ _ _ (by omega)]
      omega
/-- The table behind one file's becoming another inode. -/
def shareT (T : Nat → Option Ino) (n w : Nat) (xn xw : Ino) : Nat → Option Ino := upd (upd T n (some { xn with links := xn.links + 1 })) w (if xw.links = 1 then none else some { xw with links := xw.links - 1 })
theorem savT_share {T : Nat → Option Ino} {n w K : Nat} {xn xw : Ino} (hn : T n = some xn) (hw : T w = some xw) (hnw : n ≠ w) (hnK : n < K) (hwK : w < K) (hl : xn.bl.length = xw.bl.length) (hp : 1 ≤ xn.links) (hq : 1 ≤ xw.links) : savT T K ≤ savT (shareT T n w xn xw) K := by
  unfold shareT
  have h1 := savT_upd T n (some { xn with links := xn.links + 1 }) K hnK
  have h2 := savT_upd (upd T n (some { xn with links := xn.links + 1 })) w (if xw.links = 1 then none else some { xw with links := xw.links - 1 }) K hwK
  rw [upd_other _ _ _ (fun e => hnw e.symm), hw] at h2
  rw [hn] at h1
  obtain ⟨a, ha⟩ : ∃ a, xn.links = a + 1 := ⟨xn.links - 1, by omega⟩
  obtain ⟨b, hb⟩ : ∃ b, xw.links = b + 1 := ⟨xw.links - 1, by omega⟩
  have e1 : savI (some { xn with links := xn.links + 1 }) = savI (some xn) + xn.bl.length := by
    simp only [savI, ha, Nat.add_sub_cancel]
    rw [Nat.add_mul, Nat.one_mul]
  have e2 : savI (if xw.links = 1 then none else some { xw with links := xw.links - 1 }) + xw.bl.length ≥ savI (some xw) := by
    by_cases hb0 : b = 0
    · rw [if_pos (by omega)]
      simp [savI, hb, hb0]
    · rw [if_neg (by omega)]
      obtain ⟨c, hc⟩ : ∃ c, b = c + 1 := ⟨b - 1, by omega⟩
      simp only [savI, hb, hc, Nat.add_sub_cancel]
      rw [Nat.add_mul, Nat.one_mul]
      omega
  omega
/-- The numbers of the inodes below K. -/
def kysL (T : Nat → Option Ino) (K : Nat) : List Nat := (List.range K).filter fun i => (T i).isSome
theorem savT_keys (T : Nat → Option Ino) : ∀ K, ((kysL T K).map fun k => savI (T k)).sum = savT T K
  | 0 => rfl
  | K + 1 => by
    have ih := savT_keys T K
    unfold kysL at ih ⊢
    rw [List.range_succ, List.filter_append, List.map_append, List.sum_append, ih, savT, List.filter_cons, List.filter_nil]
    congr 1
    cases h : T K with
    | none => simp [savI]
    | some x => simp [h]
end Go.Proofs.YtoemahhpheobkaaGreatDoor

namespace Go.Proofs.YtoemahhpheobkaaGreatDoor
open Go.RowKit Go.Shelf

section
variable {α : Type}
mutual
/-- A tree whose files have no bytes. -/
def bareT : Tr α → Tr α
  | .mk k d e v ks => .mk k (if k = kFile then ⟨#[]⟩ else d) e v (bareTs ks)
def bareTs : List (ByteArray × Tr α) → List (ByteArray × Tr α)
  | [] => []
  | (n, t) :: r => (n, bareT t) :: bareTs r
end
theorem bareTs_eq : ∀ ks : List (ByteArray × Tr α), bareTs ks = ks.map fun x => (x.1, bareT x.2)
  | [] => rfl
  | (n, t) :: r => by rw [bareTs, bareTs_eq r]; rfl
mutual
/-- A tree whose files have the bytes that g says. -/
def fillT (g : ByteArray → ByteArray) (p : ByteArray) : Tr α → Tr α
  | .mk k d e v ks => if k = kFile then .mk k (g (pathOf p)) e v ks else .mk k d e v (fillTs g p ks)
def fillTs (g : ByteArray → ByteArray) (p : ByteArray) : List (ByteArray × Tr α) → List (ByteArray × Tr α)
  | [] => []
  | (n, t) :: r => (n, fillT g (sub p n) t) :: fillTs g p r
end
theorem fillTs_eq (g : ByteArray → ByteArray) (p : ByteArray) : ∀ ks : List (ByteArray × Tr α), fillTs g p ks = ks.map fun x => (x.1, fillT g (sub p x.1) x.2)
  | [] => rfl
  | (n, t) :: r => by rw [fillTs, fillTs_eq g p r]; rfl
/-- A file has no kids. -/
theorem own_leafd {t : Tr α} (h : ownE t = 0) (hk : t.kind = kFile) : t.kids = [] := by
  unfold ownE at h
  rw [if_neg (by rw [hk]; simp)] at h
  split at h; omega
  rename_i h2
  unfold shapeB at h2
  rw [if_pos hk] at h2
  simp only [Bool.not_eq_false, decide_eq_true_eq] at h2
  exact List.eq_nil_of_length_eq_zero h2
mutual
theorem fill_bare (g : ByteArray → ByteArray) (p : ByteArray) (d : Nat) : ∀ t : Tr α, (∀ x ∈ pre p d t, ownE x.n = 0) → (∀ x ∈ pre p d t, x.n.kind = kFile → g (pathOf x.path) = x.n.data) → fillT g p (bareT t) = t
  | .mk k da e v ks => fun h1 h2 => by
    rw [bareT, fillT]
    rw [pre] at h1 h2
    by_cases hk : k = kFile
    · have h3 := own_leafd (h1 _ (List.mem_cons_self ..)) hk
      have h4 := h2 _ (List.mem_cons_self ..) hk
      simp only [Tr.data, Tr.kids] at h3 h4
      rw [if_pos hk, h4, h3, bareTs]
    · rw [if_neg hk, if_neg hk, fills_bare g p (d + 1) ks (fun x hx => h1 x (List.mem_cons_of_mem _ hx)) (fun x hx => h2 x (List.mem_cons_of_mem _ hx))]
theorem fills_bare (g : ByteArray → ByteArray) (p : ByteArray) (d : Nat) : ∀ ks : List (ByteArray × Tr α), (∀ x ∈ pres p d ks, ownE x.n = 0) → (∀ x ∈ pres p d ks, x.n.kind = kFile → g (pathOf x.path) = x.n.data) → fillTs g p (bareTs ks) = ks
  | [] => fun _ _ => rfl
  | (n, t) :: r => fun h1 h2 => by
    rw [pres] at h1 h2
    rw [bareTs, fillTs, fill_bare g (sub p n) d t (fun x hx => h1 x (List.mem_append_left _ hx)) (fun x hx => h2 x (List.mem_append_left _ hx)),
      fills_bare g p d r (fun x hx => h1 x (List.mem_append_right _ hx)) (fun x hx => h2 x (List.mem_append_right _ hx))]
end
mutual
theorem pre_bareT (p : ByteArray) (d : Nat) : ∀ t : Tr α, pre p d (bareT t) = (pre p d t).map fun x => ⟨x.path, x.deep, bareT x.n⟩
  | .mk k da e v ks => by
    rw [pre, List.map_cons, ← pres_bareT p (d + 1) ks, bareT, pre]
theorem pres_bareT (p : ByteArray) (d : Nat) : ∀ ks : List (ByteArray × Tr α), pres p d (bareTs ks) = (pres p d ks).map fun x => ⟨x.path, x.deep, bareT x.n⟩
  | [] => rfl
  | (n, t) :: r => by rw [bareTs, pres, pres, List.map_append, pre_bareT _ d t, pres_bareT p d r]
end
theorem kind_bareT (t : Tr α) : (bareT t).kind = t.kind := by cases t; rw [bareT]; rfl
theorem kids_bareT (t : Tr α) : (bareT t).kids = t.kids.map fun x => (x.1, bareT x.2) := by cases t; rw [bareT]; exact bareTs_eq _
mutual
theorem bareT_map {β : Type} (f : α → β) : ∀ t : Tr α, bareT (t.map f) = (bareT t).map f
  | .mk k d e v ks => by rw [Tr.map, bareT, bareT, Tr.map, bareTs_map f ks]
theorem bareTs_map {β : Type} (f : α → β) : ∀ ks : List (ByteArray × Tr α), bareTs (Tr.maps f ks) = Tr.maps f (bareTs ks)
  | [] => rfl
  | (n, t) :: r => by rw [Tr.maps, bareTs, bareTs, Tr.maps, bareT_map f t, bareTs_map f r]
end
/-- How many blocks a tree's files need. -/
def needS (l : List (It α)) : Nat := (l.map fun x => if x.n.kind = kFile then needN x.n.data.size else 0).sum
theorem needS_snoc (l : List (It α)) (x : It α) : needS (l ++ [x]) = needS l + if x.n.kind = kFile then needN x.n.data.size else 0 := by simp [needS]
theorem needS_R {t : Tr α} (h : treeE t = 0) : needS (listed t) = ((filesR t).map fun x => needN x.2.data.size).sum := by
  rw [listed_of h, pre_R]
  unfold needS filesR
  rw [List.map_map]
  generalize preR t = l
  induction l with
  | nil => rfl
  | cons x r ih =>
    rw [List.map_cons, List.sum_cons, ih, List.filter_cons]
    show (if x.2.kind = kFile then needN x.2.data.size else 0) + _ = _
    by_cases hk : x.2.kind = kFile
    · simp [hk]
    · simp [hk]
end

/-- A tree of the dirs: its nodes, its files' map, the tree that was put, the inodes of its paths. -/
structure Dt where
  tr : Lt
  fm : Nat
  src : Nd
  F : ByteArray → Option Nat
def Dt.fl (e : Dt) : List ByteArray := fileL (listed e.src)
/-- What holds of a tree of the dirs alone. -/
structure Dt.Well (e : Dt) : Prop where
  right : treeE e.src = 0
  bare : e.tr.bare = bareT e.src
  dom : ∀ s, (e.F s).isSome = true ↔ s ∈ e.fl
/-- How many of a tree's files are inode n. -/
def cntE (o : Option Dt) (n : Nat) : Nat := match o with | some e => (e.fl.filter fun s => decide (e.F s = some n)).length | none => 0
/-- How many files of the first K trees are inode n. -/
def refsN (D : Nat → Option Dt) (n : Nat) : Nat → Nat
  | 0 => 0
  | K + 1 => refsN D n K + cntE (D K) n
def lnk (o : Option Ino) : Nat := match o with | some x => x.links | none => 0
/-- Each inode has as many links as there are files that are it. -/
def Lnk (T : Nat → Option Ino) (D : Nat → Option Dt) (K : Nat) : Prop := ∀ n, lnk (T n) = refsN D n K
def updD (D : Nat → Option Dt) (k : Nat) (o : Option Dt) (i : Nat) : Option Dt := if i = k then o else D i
theorem updD_same (D : Nat → Option Dt) (k : Nat) (o : Option Dt) : updD D k o k = o := by simp [updD]
theorem updD_other (D : Nat → Option Dt) (k : Nat) (o : Option Dt) {i : Nat} (h : i ≠ k) : updD D k o i = D i := by simp [updD, h]
theorem refsN_far (D : Nat → Option Dt) (k : Nat) (o : Option Dt) (n : Nat) : ∀ K, K ≤ k → refsN (updD D k o) n K = refsN D n K
  | 0, _ => rfl
  | K + 1, h => by rw [refsN, refsN, refsN_far D k o n K (by omega), updD_other _ _ _ (by omega)]
theorem refsN_upd (D : Nat → Option Dt) (k : Nat) (o : Option Dt) (n : Nat) : ∀ K, k < K → refsN (updD D k o) n K + cntE (D k) n = refsN D n K + cntE o n
  | 0, h => by omega
  | K + 1, h => by
    rw [refsN, refsN]
    by_cases e : k = K
    · subst e
      rw [refsN_far D k o n k (Nat.le_refl _), updD_same]
      omega
    · have := refsN_upd D k o n K (by omega)
      rw [updD_other _ _ _ (by omega)]
      omega
theorem refsN_ge (D : Nat → Option Dt) (n : Nat) {k : Nat} : ∀ K, k < K → cntE (D k) n ≤ refsN D n K
  | 0, h => by omega
  | K + 1, h => by
    rw [refsN]
    by_cases e : k = K
    · subst e; omega
    · have := refsN_ge D n (k := k) K (by omega); omega
theorem cntE_pos {e : Dt} {s : ByteArray} {n : Nat} (hs : s ∈ e.fl) (h : e.F s = some n) : 1 ≤ cntE (some e) n := by
  unfold cntE
  exact List.length_pos_of_mem (List.mem_filter.2 ⟨hs, by simp [h]⟩)
theorem fm_pos {e : Dt} (hw : e.Well) {s : ByteArray} {n : Nat} (h : e.F s = some n) : s ∈ e.fl := (hw.dom s).1 (by rw [h]; rfl)
theorem Lnk.got {T : Nat → Option Ino} {D : Nat → Option Dt} {K k : Nat} (h : Lnk T D K) (hk : k < K) {e : Dt} (he : D k = some e) (hw : e.Well) {s : ByteArray} {n : Nat} (hs : e.F s = some n) : ∃ x, T n = some x ∧ 1 ≤ x.links := by
  have h1 := cntE_pos (fm_pos hw hs) hs
  have h2 := refsN_ge D n K hk
  rw [he] at h2
  have h3 := h n
  cases hT : T n with
  | none => rw [hT] at h3; simp only [lnk] at h3; omega
  | some x => rw [hT] at h3; simp only [lnk] at h3; exact ⟨x, rfl, by omega⟩
/-- One file becomes another inode: the counts. -/
def setF (F : ByteArray → Option Nat) (s : ByteArray) (n : Nat) (i : ByteArray) : Option Nat := if i = s then some n else F i
theorem cnt_set {l : List ByteArray} (hn : l.Nodup) {F : ByteArray → Option Nat} {s : ByteArray} (hs : s ∈ l) (n m : Nat) :
    (l.filter fun i => decide (setF F s n i = some m)).length + (if F s = some m then 1 else 0) = (l.filter fun i => decide (F i = some m)).length + (if n = m then 1 else 0) := by
  induction l with
  | nil => simp at hs
  | cons a r ih =>
    rw [List.nodup_cons] at hn
    by_cases ha : a = s
    · subst ha
      have e : (r.filter fun i => decide (setF F a n i = some m)) = r.filter fun i => decide (F i = some m) := by
        apply List.filter_congr
        intro i hi
        have : i ≠ a := fun e => hn.1 (e ▸ hi)
        simp [setF, this]
      rw [List.filter_cons, List.filter_cons, e]
      have e2 : setF F a n a = some n := by simp [setF]
      rw [e2]
      by_cases h1 : n = m <;> by_cases h2 : F a = some m <;> simp [h1, h2]
    · have hs' : s ∈ r := by
        rcases List.mem_cons.1 hs with h | h
        · exact absurd h.symm ha
        · exact h
      have h1 := ih hn.2 hs'
      rw [List.filter_cons, List.filter_cons]
      have e2 : setF F s n a = F a := by simp [setF, ha]
      rw [e2]
      by_cases h2 : F a = some m
      · simp only [h2, decide_true, if_true, List.length_cons]; omega
      · simp only [h2, decide_false, Bool.false_eq_true, if_false]; omega

/-- Do the files' inodes hold what was put? -/
def Dat (T : Nat → Option Ino) (e : Dt) : Prop := ∀ it ∈ filesR e.src, ∀ n x, e.F (pathOf (jt it.1)) = some n → T n = some x → x.data = it.2.data ∧ x.exec = it.2.exec

section
variable {T : Nat → Option Ino} {D : Nat → Option Dt} {n was K k : Nat} {xn xw : Ino} {e : Dt} {s : ByteArray}
theorem share_back (hn : T n = some xn) (hw : T was = some xw) (hne : was ≠ n) {m : Nat} {x : Ino} (h : shareT T n was xn xw m = some x) : ∃ y, T m = some y ∧ x.data = y.data ∧ x.exec = y.exec ∧ x.bl = y.bl ∧ x.blk = y.blk := by
  unfold shareT at h
  by_cases h1 : m = was
  · subst h1
    rw [upd_same] at h
    by_cases h2 : xw.links = 1
    · rw [if_pos h2] at h; cases h
    · rw [if_neg h2] at h; cases h; exact ⟨xw, hw, rfl, rfl, rfl, rfl⟩
  · rw [upd_other _ _ _ h1] at h
    by_cases h2 : m = n
    · subst h2; rw [upd_same] at h; cases h; exact ⟨xn, hn, rfl, rfl, rfl, rfl⟩
    · rw [upd_other _ _ _ h2] at h; exact ⟨x, h, rfl, rfl, rfl, rfl⟩
theorem share_lnk (hn : T n = some xn) (hw : T was = some xw) (hne : was ≠ n) (hp : 1 ≤ xw.links) (m : Nat) : lnk (shareT T n was xn xw m) + (if was = m then 1 else 0) = lnk (T m) + (if n = m then 1 else 0) := by
  unfold shareT
  by_cases h1 : m = was
  · subst h1
    have e1 : (if m = m then 1 else 0 : Nat) = 1 := if_pos rfl
    have e2 : (if n = m then 1 else 0 : Nat) = 0 := if_neg (fun e => hne e.symm)
    rw [upd_same, hw, e1, e2]
    by_cases h2 : xw.links = 1
    · rw [if_pos h2]; simp only [lnk]; omega
    · rw [if_neg h2]; simp only [lnk]; omega
  · have e1 : (if was = m then 1 else 0 : Nat) = 0 := if_neg (fun e => h1 e.symm)
    rw [upd_other _ _ _ h1, e1]
    by_cases h2 : m = n
    · subst h2
      have e2 : (if m = m then 1 else 0 : Nat) = 1 := if_pos rfl
      rw [upd_same, hn, e2]; rfl
    · have e2 : (if n = m then 1 else 0 : Nat) = 0 := if_neg (fun e => h2 e.symm)
      rw [upd_other _ _ _ h2, e2]
def Dt.setE (e : Dt) (s : ByteArray) (n : Nat) : Dt := { e with F := setF e.F s n }
theorem Dt.fl_set (e : Dt) (s : ByteArray) (n : Nat) : (e.setE s n).fl = e.fl := rfl
theorem Dt.Well.nodup (hw : e.Well) : e.fl.Nodup := fileL_nodup hw.right
theorem Dt.Well.set (hw : e.Well) (hs : s ∈ e.fl) : (e.setE s n).Well where
  right := hw.right
  bare := hw.bare
  dom := fun q => by
    show (setF e.F s n q).isSome = true ↔ q ∈ e.fl
    unfold setF
    by_cases h : q = s
    · subst h; simp [hs]
    · rw [if_neg h]; exact hw.dom q
theorem Lnk.share (h : Lnk T D K) (hn : T n = some xn) (hw : T was = some xw) (hne : was ≠ n) (hk : k < K) (he : D k = some e) (hwe : e.Well) (hs : e.F s = some was) : Lnk (shareT T n was xn xw) (updD D k (some (e.setE s n))) K := fun m => by
  obtain ⟨xw', h1, hp⟩ := h.got hk he hwe hs
  obtain rfl : xw' = xw := by rw [hw] at h1; exact (Option.some.inj h1).symm
  have h2 := share_lnk hn hw hne hp m
  have h3 := refsN_upd D k (some (e.setE s n)) m K hk
  rw [he] at h3
  have h4 := cnt_set hwe.nodup (fm_pos hwe hs) n m (F := e.F)
  rw [hs] at h4
  have e1 : cntE (some (e.setE s n)) m = (e.fl.filter fun i => decide (setF e.F s n i = some m)).length := rfl
  have e2 : cntE (some e) m = (e.fl.filter fun i => decide (e.F i = some m)).length := rfl
  have h5 := h m
  simp only [Option.some.injEq] at h4
  omega
theorem Dat.share (hn : T n = some xn) (hw : T was = some xw) (hne : was ≠ n) {f : Dt} (h : Dat T f) : Dat (shareT T n was xn xw) f := fun it hit m x hm hx => by
  obtain ⟨y, hy, e1, e2, -⟩ := share_back hn hw hne hx
  rw [e1, e2]
  exact h it hit m y hm hy
theorem Dat.set (hn : T n = some xn) (hw : T was = some xw) (hne : was ≠ n) (hs : e.F s = some was) (hd : xn.data = xw.data) (hx : xn.exec = xw.exec) (h : Dat T e) : Dat (shareT T n was xn xw) (e.setE s n) := fun it hit m x hm hx' => by
  obtain ⟨y, hy, e1, e2, -⟩ := share_back hn hw hne hx'
  rw [e1, e2]
  have hm' : setF e.F s n (pathOf (jt it.1)) = some m := hm
  unfold setF at hm'
  by_cases hq : pathOf (jt it.1) = s
  · rw [if_pos hq] at hm'
    obtain rfl := Option.some.inj hm'
    rw [hn] at hy
    obtain rfl := Option.some.inj hy
    rw [hd, hx]
    exact h it hit was xw (hq ▸ hs) hw
  · rw [if_neg hq] at hm'
    exact h it hit m y hm' hy
end

section
variable {T T' : Nat → Option Ino} {D : Nat → Option Dt} {K : Nat} {e : Dt}
theorem Lnk.put (h : Lnk T D K) (hT : ∀ m, lnk (T' m) = lnk (T m) + cntE (some e) m) : Lnk T' (updD D K (some e)) (K + 1) := fun m => by
  rw [refsN, refsN_far D K _ m K (Nat.le_refl _), updD_same, hT m, h m]
theorem Dat.more {f : Dt} (h : Dat T f) (hs : ∀ m x, T m = some x → T' m = some x) (hex : ∀ q m, f.F q = some m → ∃ x, T m = some x) : Dat T' f := fun it hit m x hm hx => by
  obtain ⟨y, hy⟩ := hex _ m hm
  rw [hs m y hy] at hx
  obtain rfl := Option.some.inj hx
  exact h it hit m _ hm hy
/-- What a Put has done behind so many files. -/
structure PutJ (fs : List (List ByteArray × Lt)) (T : Nat → Option Ino) (us : List Bool) (j : Nat) (Tj : Nat → Option Ino) (uj : List Bool) (F : ByteArray → Option Nat) : Prop where
  dom : ∀ q, (F q).isSome = true ↔ q ∈ (fs.take j).map fun x => pathOf (jt x.1)
  cnt : ∀ m, lnk (Tj m) = lnk (T m) + (((fs.take j).map fun x => pathOf (jt x.1)).filter fun q => decide (F q = some m)).length
  dat : ∀ it ∈ fs.take j, ∀ n x, F (pathOf (jt it.1)) = some n → Tj n = some x → x.data = it.2.data ∧ x.exec = it.2.exec
  old : ∀ m x, T m = some x → Tj m = some x
  fre : nfree uj + ((fs.take j).map fun x => needN x.2.data.size).sum = nfree us
theorem PutJ.zero (fs : List (List ByteArray × Lt)) (T : Nat → Option Ino) (us : List Bool) : PutJ fs T us 0 T us (fun _ => none) where
  dom := by simp
  cnt := by simp
  dat := by simp
  old := fun _ _ h => h
  fre := by simp
theorem PutJ.next {fs : List (List ByteArray × Lt)} {us uj uk : List Bool} {j : Nat} {Tj : Nat → Option Ino} {F : ByteArray → Option Nat} (h : PutJ fs T us j Tj uj F) (hj : j < fs.length) (hnd : (fs.map fun x => pathOf (jt x.1)).Nodup) {k0 : Nat} {x : Ino} (hk : Tj k0 = none)
    (hd : x.data = fs[j].2.data) (hx : x.exec = fs[j].2.exec) (hl : x.links = 1) (hu : nfree uk + needN fs[j].2.data.size = nfree uj) : PutJ fs T us (j + 1) (upd Tj k0 (some x)) uk (setF F (pathOf (jt fs[j].1)) k0) := by
  have ht : fs.take (j + 1) = fs.take j ++ [fs[j]] := List.take_succ_eq_append_getElem hj
  have hT0 : T k0 = none := by
    cases hT : T k0 with
    | none => rfl
    | some y => rw [h.old k0 y hT] at hk; cases hk
  have hnotin : pathOf (jt fs[j].1) ∉ (fs.take j).map fun x => pathOf (jt x.1) := by
    have h1 : fs = fs.take j ++ fs[j] :: fs.drop (j + 1) := by rw [← List.drop_eq_getElem_cons hj, List.take_append_drop]
    rw [h1, List.map_append, List.map_cons, List.nodup_append] at hnd
    intro hm
    have hm' : pathOf (jt fs[j].1) ∈ (fs.take j).map fun x => pathOf (jt x.1) := hm
    exact hnd.2.2 _ hm' _ (List.mem_cons_self ..) rfl
  have hF0 : ∀ q, F q ≠ some k0 := fun q hq => by
    have h1 := h.cnt k0
    rw [hk, hT0] at h1
    simp only [lnk] at h1
    have h2 : q ∈ ((fs.take j).map fun x => pathOf (jt x.1)).filter fun q => decide (F q = some k0) := List.mem_filter.2 ⟨(h.dom q).1 (by rw [hq]; rfl), by simp [hq]⟩
    have := List.length_pos_of_mem h2
    omega
  refine ⟨fun q => ?_, fun m => ?_, fun it hit n y hn hy => ?_, fun m y hy => ?_, ?_⟩
  · rw [ht, List.map_append, List.mem_append]
    unfold setF
    by_cases hq : q = pathOf (jt fs[j].1)
    · rw [if_pos hq]; simp [hq]
    · rw [if_neg hq, h.dom q]; simp [hq]
  · rw [ht, List.map_append, List.filter_append, List.length_append]
    have e1 : (((fs.take j).map fun x => pathOf (jt x.1)).filter fun q => decide (setF F (pathOf (jt fs[j].1)) k0 q = some m)) = ((fs.take j).map fun x => pathOf (jt x.1)).filter fun q => decide (F q = some m) := by
      apply List.filter_congr
      intro q hq
      have : q ≠ pathOf (jt fs[j].1) := fun e => hnotin (e ▸ hq)
      simp [setF, this]
    rw [e1]
    have e2 : (([fs[j]].map fun x => pathOf (jt x.1)).filter fun q => decide (setF F (pathOf (jt fs[j].1)) k0 q = some m)).length = if k0 = m then 1 else 0 := by
      by_cases hm : k0 = m <;> simp [setF, hm]
    rw [e2]
    by_cases hm : k0 = m
    · subst hm
      have h1 := h.cnt k0
      rw [hk] at h1
      simp only [lnk] at h1
      rw [upd_same, if_pos rfl]
      simp only [lnk, hl]
      omega
    · rw [upd_other _ _ _ (fun e => hm e.symm), if_neg hm]
      exact h.cnt m
  · rw [ht] at hit
    unfold setF at hn
    by_cases hq : pathOf (jt it.1) = pathOf (jt fs[j].1)
    · rw [if_pos hq] at hn
      obtain rfl := Option.some.inj hn
      rw [upd_same] at hy
      obtain rfl := Option.some.inj hy
      rcases List.mem_append.1 hit with h1 | h1
      · exact absurd (List.mem_map.2 ⟨it, h1, hq⟩) hnotin
      · simp only [List.mem_cons, List.not_mem_nil, or_false] at h1
        subst h1
        exact ⟨hd, hx⟩
    · rw [if_neg hq] at hn
      have hne : n ≠ k0 := fun e => hF0 _ (e ▸ hn)
      rw [upd_other _ _ _ hne] at hy
      rcases List.mem_append.1 hit with h1 | h1
      · exact h.dat it h1 n y hn hy
      · simp only [List.mem_cons, List.not_mem_nil, or_false] at h1
        subst h1
        exact absurd rfl hq
  · rw [upd_other _ _ _ (fun e => by subst e; rw [hT0] at hy; cases hy)]
    exact h.old m y hy
  · rw [ht, List.map_append, List.sum_append]
    have := h.fre
    simp only [List.map_cons, List.map_nil, List.sum_cons, List.sum_nil]
    omega
end

section
variable {α β : Type}
mutual
theorem preR_mapd (f : α → β) : ∀ t : Tr α, preR (t.map f) = (preR t).map fun x => (x.1, x.2.map f)
  | .mk k d e v ks => by rw [Tr.map, preR, preR, List.map_cons, presR_mapd f ks, Tr.map]
theorem presR_mapd (f : α → β) : ∀ ks : List (ByteArray × Tr α), presR (Tr.maps f ks) = (presR ks).map fun x => (x.1, x.2.map f)
  | [] => rfl
  | (n, t) :: r => by
    rw [Tr.maps, presR, presR, List.map_append, presR_mapd f r, preR_mapd f t, List.map_map, List.map_map]
    rfl
end
theorem filesR_mapd (f : α → β) (t : Tr α) : filesR (t.map f) = (filesR t).map fun x => (x.1, x.2.map f) := by
  unfold filesR
  rw [preR_mapd, List.filter_map]
  congr 1
  apply List.filter_congr
  intro x _
  show decide ((x.2.map f).kind = kFile) = decide (x.2.kind = kFile)
  rw [Tr.kind_map]
end
theorem PutJ.done {t : Lt} (h0 : treeE t = 0) {T T' : Nat → Option Ino} {us us' : List Bool} {F : ByteArray → Option Nat} (h : PutJ (filesR t) T us (filesR t).length T' us' F) (tr : Lt) (fm : Nat) :
    (∀ q, (F q).isSome = true ↔ q ∈ (Dt.mk tr fm t.bare F).fl) ∧ (∀ m, lnk (T' m) = lnk (T m) + cntE (some (Dt.mk tr fm t.bare F)) m) ∧ Dat T' (Dt.mk tr fm t.bare F) := by
  have h1 : treeE t.bare = 0 := by rw [show t.bare = t.map fun _ => () from rfl, treeE_map]; exact h0
  have h2 : filesR t.bare = (filesR t).map fun x => (x.1, x.2.bare) := filesR_mapd _ t
  have h3 : (Dt.mk tr fm t.bare F).fl = (filesR t).map fun x => pathOf (jt x.1) := by
    show fileL (listed t.bare) = _
    rw [fileL_R h1, h2, List.map_map]; rfl
  have hd := h.dom
  have hc := h.cnt
  have ha := h.dat
  rw [List.take_of_length_le (Nat.le_refl _)] at hd hc ha
  refine ⟨fun q => by rw [h3]; exact hd q, fun m => ?_, fun it hit n x hn hx => ?_⟩
  · rw [hc m]
    unfold cntE
    simp only
    rw [h3]
  · have hit' : it ∈ filesR t.bare := hit
    rw [h2, List.mem_map] at hit'
    obtain ⟨y, hy, rfl⟩ := hit'
    have := ha y hy n x hn hx
    rw [show (y.2.bare).data = y.2.data from Tr.data_map _ _, show (y.2.bare).exec = y.2.exec from Tr.exec_map _ _]
    exact this
/-- Of a tree that is well a Get gives what was put, where files hold it. -/
theorem fill_src {e : Dt} (hw : e.Well) {g : ByteArray → ByteArray} (hg : ∀ it ∈ filesR e.src, g (pathOf (jt it.1)) = it.2.data) : fillT g ⟨#[]⟩ e.tr.bare = e.src := by
  rw [hw.bare]
  have h0 := hw.right
  refine fill_bare g ⟨#[]⟩ 0 e.src (fun x hx => ((scan_zero h0).1 x hx).2) (fun x hx hk => ?_)
  rw [pre_R, List.mem_map] at hx
  obtain ⟨y, hy, rfl⟩ := hx
  have h1 := hg y (List.mem_filter.2 ⟨hy, by simpa using hk⟩)
  simp only
  rw [show (⟨#[]⟩ : ByteArray) ++ jt y.1 = jt y.1 from ba_inj (by simp)]
  exact h1

/-- What is read of an inode. -/
def rdI (ls : List ByteArray) (x : Ino) : Option ByteArray := if crc (readB ls x).data.toList = crc x.data.data.toList then some (readB ls x) else none
/-- What is read of a path. -/
def rdP (ls : List ByteArray) (T : Nat → Option Ino) (F : ByteArray → Option Nat) (s : ByteArray) : Option ByteArray := ((F s).bind T).bind (rdI ls)

/-- The value of a tree in the map of trees. -/
def entV (e : Dt) : Value := .agg #[.string e.tr.kind, .string e.tr.data, .bool e.tr.exec, e.tr.v, .map (some e.fm)]
def entZ : Value := .agg #[.string ⟨#[]⟩, .string ⟨#[]⟩, .bool false, .slice none 0 0, .map none]
def fmF (F : ByteArray → Option Nat) (s : ByteArray) : Option Value := (F s).map fun k => .int .i64 (k : Int)
def dmF (D : Nat → Option Dt) (k : Int) : Option Value := if 0 ≤ k then (D k.toNat).map entV else none
/-- A map of paths' inodes. -/
def MapF (w : World) (m n : Nat) (F : ByteArray → Option Nat) : Prop := ∃ vals, (Value.int .i64 0 ∈ vals ∧ ∀ v ∈ vals, ∃ c : Int, v = .int .i64 c) ∧ MapS vals w m n (fmF F)
/-- The map of trees. -/
def MapD (w : World) (m n : Nat) (D : Nat → Option Dt) : Prop := ∃ vals, entZ ∈ vals ∧ MapV vals w m n (dmF D)
section
variable {w w' : World} {m n : Nat} {F : ByteArray → Option Nat} {D : Nat → Option Dt}
theorem MapF.fr {S : Nat → Prop} (h : MapF w m n F) (hf : Fr S w w') (hS : ¬ S m) : MapF w' m n F := by obtain ⟨vals, h0, h1⟩ := h; exact ⟨vals, h0, h1.fr hf hS⟩
theorem MapF.low (h : MapF w m n F) (hf : Below w.heap.size w w') : MapF w' m n F := by obtain ⟨vals, h0, h1⟩ := h; exact ⟨vals, h0, h1.low hf⟩
theorem MapF.lt (h : MapF w m n F) : m < w.heap.size := by obtain ⟨vals, h0, h1⟩ := h; exact h1.lt
theorem MapF.mono (h : MapF w m n F) {n' : Nat} (hn : n ≤ n') : MapF w m n' F := by obtain ⟨vals, h0, h1⟩ := h; exact ⟨vals, h0, h1.mono hn⟩
theorem MapF.ne_blk {b : Nat} {cs : List Value} {T : TypeId} (h : MapF w m n F) (hb : Blk w b cs T) : m ≠ b := by obtain ⟨vals, h0, h1⟩ := h; exact h1.ne_blk hb
theorem MapD.fr {S : Nat → Prop} (h : MapD w m n D) (hf : Fr S w w') (hS : ¬ S m) : MapD w' m n D := by obtain ⟨vals, h0, h1⟩ := h; exact ⟨vals, h0, h1.fr hf hS⟩
theorem MapD.low (h : MapD w m n D) (hf : Below w.heap.size w w') : MapD w' m n D := by obtain ⟨vals, h0, h1⟩ := h; exact ⟨vals, h0, h1.low hf⟩
theorem MapD.lt (h : MapD w m n D) : m < w.heap.size := by obtain ⟨vals, h0, h1⟩ := h; exact h1.lt
theorem MapD.mono (h : MapD w m n D) {n' : Nat} (hn : n ≤ n') : MapD w m n' D := by obtain ⟨vals, h0, h1⟩ := h; exact ⟨vals, h0, h1.mono hn⟩
theorem MapD.ne_blk {b : Nat} {cs : List Value} {T : TypeId} (h : MapD w m n D) (hb : Blk w b cs T) : m ≠ b := by obtain ⟨vals, h0, h1⟩ := h; exact h1.ne_blk hb
theorem own_ne_any {G : Nat → Prop} {v : Value} {k : Nat} {xs : List Value} {S : TypeId} {size : Nat} (h : Ow G w S size v k xs) {mm : Nat} (hk : ∀ c T z, w.heap[mm]? ≠ some (.cells c T z)) : v.ownBlock ≠ some mm := by
  rcases h.2 with ⟨rfl, -⟩ | ⟨g, o, cap, cur, rfl, -, hg, -⟩
  · simp [Value.ownBlock]
  · simp only [Value.ownBlock, ne_eq, Option.some.injEq]
    rintro rfl
    exact hk _ _ _ hg
theorem MapF.noc (h : MapF w m n F) : ∀ c T z, w.heap[m]? ≠ some (.cells c T z) := by
  obtain ⟨vals, h0, D, ⟨es, clock, hh, -⟩, -⟩ := h
  intro c T z e
  rw [hh] at e
  cases e
theorem MapD.noc (h : MapD w m n D) : ∀ c T z, w.heap[m]? ≠ some (.cells c T z) := by
  obtain ⟨vals, h0, D, ⟨es, clock, hh, -⟩, -⟩ := h
  intro c T z e
  rw [hh] at e
  cases e
end

/-- Where the parts of the dirs lie. -/
structure Loc where
  (B d t p r ps rs m mb : Nat)
/-- What dirs hold: their inodes, blocks, trees. -/
structure St where
  (N nm : Nat)
  T : Nat → Option Ino
  us : List Bool
  ls : List ByteArray
  D : Nat → Option Dt
  nx : Nat
/-- The blocks that an act on dirs may turn. -/
def diS (L : Loc) (s : St) (b : Nat) : Prop := tbS L.p L.r L.rs L.m s.T b ∨ b = L.d ∨ b = L.mb ∨ ∃ k e, s.D k = some e ∧ b = e.fm
structure DiM (pc : Prop) (w : World) (L : Loc) (s : St) : Prop where
  tb : TbAt pc w L.B L.t L.p L.r L.ps L.rs L.m s.N s.T s.us s.ls
  bk : Blk w L.d [.pointer (some ⟨L.t, 0, none⟩), .map (some L.mb), .int .i64 (s.nx : Int)] 78
  mp : MapD w L.mb s.nm s.D
  fms : ∀ k e, s.D k = some e → MapF w e.fm s.N e.F
  tr : ∀ k e, s.D k = some e → e.tr.Ok w
  inn : ∀ k e, s.D k = some e → e.tr.In (fun b => ¬ diS L s b)
  ne : L.mb ≠ L.m ∧ ∀ k e, s.D k = some e → e.fm ≠ L.m ∧ e.fm ≠ L.mb
  inj : ∀ k l e f, s.D k = some e → s.D l = some f → k ≠ l → e.fm ≠ f.fm
  base : L.B ≤ L.d ∧ L.B ≤ L.mb ∧ ∀ k e, s.D k = some e → L.B ≤ e.fm
  far : ∀ k, s.nx ≤ k → s.D k = none
  sz : Sz s.ls []
/-- Dirs between calls. -/
structure DiAt (pc : Prop) (w : World) (L : Loc) (s : St) : Prop extends DiM pc w L s where
  well : ∀ k e, s.D k = some e → e.Well
  lnk : Lnk s.T s.D s.nx
  dat : pc → ∀ k e, s.D k = some e → Dat s.T e
section
variable {pc : Prop} {w w' : World} {L : Loc} {s : St}
theorem DiM.low (h : DiM pc w L s) (hf : Below w.heap.size w w') : DiM pc w' L s :=
  { h with tb := h.tb.ob hf, bk := h.bk.below hf h.bk.lt, mp := h.mp.low hf, fms := fun k e he => (h.fms k e he).low hf, tr := fun k e he => (h.tr k e he).ob hf }
theorem DiAt.low (h : DiAt pc w L s) (hf : Below w.heap.size w w') : DiAt pc w' L s := { h with toDiM := h.toDiM.low hf }
theorem DiM.baseS (h : DiM pc w L s) : ∀ b, diS L s b → L.B ≤ b := by
  rintro b (hb | rfl | rfl | ⟨k, e, he, rfl⟩)
  · exact h.tb.baseS b hb
  · exact h.base.1
  · exact h.base.2.1
  · exact h.base.2.2 k e he
theorem DiM.c0 (h : DiM pc w L s) : w.cell? ⟨L.d, 0, none⟩ = some (.pointer (some ⟨L.t, 0, none⟩)) := h.bk.cell rfl
theorem DiM.c1 (h : DiM pc w L s) : w.cell? ⟨L.d, 1, none⟩ = some (.map (some L.mb)) := h.bk.cell rfl
theorem DiM.c2 (h : DiM pc w L s) : w.cell? ⟨L.d, 2, none⟩ = some (.int .i64 (s.nx : Int)) := h.bk.cell rfl
theorem DiM.lt (h : DiM pc w L s) {k : Nat} {e : Dt} (he : s.D k = some e) : k < s.nx := by
  rcases Nat.lt_or_ge k s.nx with h1 | h1
  · exact h1
  · rw [h.far k h1] at he; cases he
theorem DiAt.ino (h : DiAt pc w L s) {k : Nat} {e : Dt} (he : s.D k = some e) {q : ByteArray} {n : Nat} (hq : e.F q = some n) : ∃ x, s.T n = some x ∧ 1 ≤ x.links := h.lnk.got (h.lt he) he (h.well k e he) hq
theorem DiM.klt (h : DiM pc w L s) {n : Nat} {x : Ino} (hx : s.T n = some x) : n < s.N := by
  obtain ⟨K, hK, hf⟩ := h.tb.fin
  rcases Nat.lt_or_ge n K with h1 | h1
  · omega
  · rw [hf n h1] at hx; cases hx
/-- Blocks that are not the table's. -/
def notTb (L : Loc) (T : Nat → Option Ino) (b : Nat) : Prop := b ≠ L.t ∧ b ≠ L.p ∧ b ≠ L.r ∧ b ≠ L.ps ∧ b ≠ L.rs ∧ b ≠ L.m ∧ ∀ k x, T k = some x → b ≠ x.blk ∧ x.bv.ownBlock ≠ some b
theorem tb_fr {S : Nat → Prop} {N : Nat} {T : Nat → Option Ino} {us : List Bool} {ls : List ByteArray} (h : TbAt pc w L.B L.t L.p L.r L.ps L.rs L.m N T us ls) (hf : Fr S w w') (hS : ∀ b, S b → notTb L T b) : TbAt pc w' L.B L.t L.p L.r L.ps L.rs L.m N T us ls :=
  { h with
    tab := h.tab.fr hf (fun e => (hS _ e).1 rfl)
    dk := h.dk.fr hf (by
      rintro b (rfl | rfl | hb') e
      · exact (hS _ e).2.1 rfl
      · exact (hS _ e).2.2.1 rfl
      · simp [Value.ownBlock] at hb')
    sp := h.sp.fr hf (fun e => (hS _ e).2.2.2.1 rfl) (fun e => (hS _ e).2.2.2.2.1 rfl)
    mp := by obtain ⟨n, hn, hm⟩ := h.mp; exact ⟨n, hn, hm.fr hf (fun e => (hS _ e).2.2.2.2.2.1 rfl)⟩
    ino := fun k x hx => (h.ino k x hx).fr hf (fun e => ((hS _ e).2.2.2.2.2.2 k x hx).1 rfl) (fun g hg e => ((hS _ e).2.2.2.2.2.2 k x hx).2 hg) }
theorem noc_blk {b : Nat} {cs : List Value} {T : TypeId} (h : Blk w b cs T) {g : Nat} (hg : ∀ c T z, w.heap[g]? ≠ some (.cells c T z)) : g ≠ b := by
  intro e
  rw [e] at hg
  exact hg _ _ _ h
theorem notTb_map {N : Nat} {T : Nat → Option Ino} {us : List Bool} {ls : List ByteArray} (h : TbAt pc w L.B L.t L.p L.r L.ps L.rs L.m N T us ls) {g : Nat} (hg : ∀ c T z, w.heap[g]? ≠ some (.cells c T z)) (hm : g ≠ L.m) : notTb L T g :=
  ⟨noc_blk h.tab hg, noc_blk h.dk.head hg, noc_blk h.dk.row hg, noc_blk h.sp.head hg, noc_blk h.sp.row hg, hm, fun k x hx => ⟨noc_blk (h.ino k x hx).blk hg, own_ne_any (h.ino k x hx).row hg⟩⟩
theorem notTb_dir {N : Nat} {T : Nat → Option Ino} {us : List Bool} {ls : List ByteArray} (h : TbAt pc w L.B L.t L.p L.r L.ps L.rs L.m N T us ls) {g : Nat} {cs : List Value} (hg : Blk w g cs 78) : notTb L T g :=
  ⟨blk_ne hg h.tab (by decide), blk_ne hg h.dk.head (by decide), blk_ne hg h.dk.row (by decide), blk_ne hg h.sp.head (by decide), blk_ne hg h.sp.row (by decide), by obtain ⟨n, hn, hm⟩ := h.mp; exact fun e => hm.ne_blk hg e.symm, fun k x hx => ⟨blk_ne hg (h.ino k x hx).blk (by decide), own_ne (h.ino k x hx).row hg (by decide)⟩⟩
theorem tbS_cells {T : Nat → Option Ino} {g : Nat} (hg : notTb L T g) : ¬ tbS L.p L.r L.rs L.m T g := by
  rintro (rfl | rfl | rfl | rfl | ⟨k, x, hx, rfl⟩)
  · exact hg.2.1 rfl
  · exact hg.2.2.1 rfl
  · exact hg.2.2.2.2.1 rfl
  · exact hg.2.2.2.2.2.1 rfl
  · exact (hg.2.2.2.2.2.2 k x hx).1 rfl
/-- An act on the table alone. -/
theorem DiM.table (h : DiM pc w L s) (hf : Fr (tbS L.p L.r L.rs L.m s.T) w w') {N' : Nat} {T' : Nat → Option Ino} {us' : List Bool} {ls' : List ByteArray} (hN : s.N ≤ N') (htb : TbAt pc w' L.B L.t L.p L.r L.ps L.rs L.m N' T' us' ls') (hz : Sz ls' [])
    (hS : ∀ b, tbS L.p L.r L.rs L.m T' b → tbS L.p L.r L.rs L.m s.T b ∨ w.heap.size ≤ b) : DiM pc w' L { s with N := N', T := T', us := us', ls := ls' } where
  tb := htb
  bk := h.bk.fr hf (tbS_cells (notTb_dir h.tb h.bk))
  mp := h.mp.fr hf (tbS_cells (notTb_map h.tb h.mp.noc h.ne.1))
  fms := fun k e he => ((h.fms k e he).fr hf (tbS_cells (notTb_map h.tb (h.fms k e he).noc (h.ne.2 k e he).1))).mono hN
  tr := fun k e he => ok_fr hf _ (h.tr k e he) (in_mono (fun b hb e => hb (.inl e)) _ (h.inn k e he))
  inn := fun k e he => in_mono (fun b hb hd => by
    rcases hd with hd | hd | hd | hd
    · rcases hS b hd with h1 | h1
      · exact hb.1 (.inl h1)
      · omega
    · exact hb.1 (.inr (.inl hd))
    · exact hb.1 (.inr (.inr (.inl hd)))
    · exact hb.1 (.inr (.inr (.inr hd)))) _ (in_and _ (h.inn k e he) (ok_in _ (h.tr k e he)))
  ne := h.ne
  inj := h.inj
  base := h.base
  far := h.far
  sz := hz
theorem dmF_set (D : Nat → Option Dt) {k : Nat} {e : Dt} (he : D k = some e) (F : ByteArray → Option Nat) : dmF (updD D k (some { e with F := F })) = dmF D := by
  funext i
  unfold dmF updD
  by_cases h0 : 0 ≤ i
  · rw [if_pos h0, if_pos h0]
    by_cases h1 : i.toNat = k
    · rw [if_pos h1, h1, he]; rfl
    · rw [if_neg h1]
  · rw [if_neg h0, if_neg h0]
theorem updD_cases {D : Nat → Option Dt} {k : Nat} {o : Option Dt} {i : Nat} {f : Dt} (h : updD D k o i = some f) : (i = k ∧ o = some f) ∨ (i ≠ k ∧ D i = some f) := by
  unfold updD at h
  by_cases e : i = k
  · rw [if_pos e] at h; exact .inl ⟨e, h⟩
  · rw [if_neg e] at h; exact .inr ⟨e, h⟩
/-- A store into a tree's map of files. -/
theorem DiM.setF (h : DiM pc w L s) {k : Nat} {e : Dt} (he : s.D k = some e) {F : ByteArray → Option Nat} (hf : Fr (fun b => b = e.fm) w w') (hm : MapF w' e.fm (s.N + 1) F) : DiM pc w' L { s with N := s.N + 1, D := updD s.D k (some { e with F := F }) } := by
  have hnt := notTb_map h.tb (h.fms k e he).noc (h.ne.2 k e he).1
  have hdS : ∀ b, diS L { s with N := s.N + 1, D := updD s.D k (some { e with F := F }) } b → diS L s b := by
    rintro b (hb | hb | hb | ⟨i, f, hi, rfl⟩)
    · exact .inl hb
    · exact .inr (.inl hb)
    · exact .inr (.inr (.inl hb))
    · rcases updD_cases hi with ⟨rfl, h1⟩ | ⟨-, h1⟩
      · cases h1; exact .inr (.inr (.inr ⟨i, e, he, rfl⟩))
      · exact .inr (.inr (.inr ⟨i, f, h1, rfl⟩))
  have key : ∀ i f, updD s.D k (some { e with F := F }) i = some f → ∃ g, s.D i = some g ∧ g.tr = f.tr ∧ g.fm = f.fm := by
    intro i f hi
    rcases updD_cases hi with ⟨rfl, h1⟩ | ⟨-, h1⟩
    · cases h1; exact ⟨e, he, rfl, rfl⟩
    · exact ⟨f, h1, rfl, rfl⟩
  exact {
    tb := (tb_fr h.tb hf (fun b hb => by rw [hb]; exact hnt)).more (Nat.le_succ _)
    bk := h.bk.fr hf (fun e' => noc_blk h.bk (h.fms k e he).noc e'.symm)
    mp := by
      obtain ⟨vals, h0, h1⟩ := h.mp.fr hf (fun e' => (h.ne.2 k e he).2 e'.symm)
      exact ⟨vals, h0, by rw [dmF_set s.D he]; exact h1⟩
    fms := fun i f hi => by
      rcases updD_cases hi with ⟨rfl, h1⟩ | ⟨h2, h1⟩
      · cases h1; exact hm
      · exact ((h.fms i f h1).fr hf (h.inj i k f e h1 he h2)).mono (Nat.le_succ _)
    tr := fun i f hi => by
      obtain ⟨g, hg, e1, -⟩ := key i f hi
      rw [← e1]
      exact ok_fr hf _ (h.tr i g hg) (in_mono (fun b hb e' => hb (.inr (.inr (.inr ⟨k, e, he, e'⟩)))) _ (h.inn i g hg))
    inn := fun i f hi => by
      obtain ⟨g, hg, e1, -⟩ := key i f hi
      rw [← e1]
      exact in_mono (fun b hb hd => hb (hdS b hd)) _ (h.inn i g hg)
    ne := ⟨h.ne.1, fun i f hi => by
      obtain ⟨g, hg, -, e2⟩ := key i f hi
      rw [← e2]; exact h.ne.2 i g hg⟩
    inj := fun i j f g hi hj hij => by
      obtain ⟨f', hf', -, e1⟩ := key i f hi
      obtain ⟨g', hg', -, e2⟩ := key j g hj
      rw [← e1, ← e2]
      exact h.inj i j f' g' hf' hg' hij
    base := ⟨h.base.1, h.base.2.1, fun i f hi => by
      obtain ⟨g, hg, -, e2⟩ := key i f hi
      rw [← e2]; exact h.base.2.2 i g hg⟩
    far := fun i hi => by
      show updD s.D k _ i = none
      rw [updD_other _ _ _ (by have := h.lt he; have : s.nx ≤ i := hi; omega)]
      exact h.far i hi
    sz := h.sz }
end
end Go.Proofs.YtoemahhpheobkaaGreatDoor

namespace Go.Proofs.YtoemahhpheobkaaGreatDoor
open Go.RowKit Go.Shelf

/-- The sentinels that dirs reach. -/
def diGs : List Nat := trGs ++ [3]
theorem Env.di {B : Nat} {w : World} {E : Nat → Addr} (h : Env diGs B w E) : Env trGs B w E := h.sub (fun _ hg => List.mem_append_left _ hg)
theorem di_sum : 3 ∈ diGs := by decide
theorem di_none : 1 ∈ diGs := by decide
theorem di_full : 0 ∈ diGs := by decide
theorem di_shape : 2 ∈ diGs := by decide
theorem zero_ent (w : World) : (zeroValue 83).run Tryz.prog w = .ok entZ w := by kernel_rfl
theorem zero_intd (w : World) : (zeroValue 3).run Tryz.prog w = .ok (.int .i64 0) w := by kernel_rfl
theorem field_ent (a b c d e : Value) (w : World) : (Instr.field 83 (.agg #[a, b, c, d, e]) 1).run Tryz.prog w = .ok e w := by kernel_rfl
/-- A number that a map's key may be. -/
def K64 (k : Int) : Prop := -9223372036854775808 ≤ k ∧ k ≤ 9223372036854775807
section
variable {pc : Prop} {w : World} {L : Loc} {s : St}
theorem DiM.look_ok (h : DiM pc w L s) {k : Int} (hk : K64 k) : (Instr.lookup 76 (.map (some L.mb)) (.int .i64 k) true).run Tryz.prog w = .ok (.tuple #[(dmF s.D k).getD entZ, .bool (dmF s.D k).isSome]) w := by
  obtain ⟨vals, h0, h1⟩ := h.mp
  exact h1.look_ok (e := 83) Tryz.underlying76 (zero_ent w) h0 hk
theorem DiM.look (h : DiM pc w L s) {k : Int} (hk : K64 k) : (Instr.lookup 76 (.map (some L.mb)) (.int .i64 k) false).run Tryz.prog w = .ok ((dmF s.D k).getD entZ) w := by
  obtain ⟨vals, h0, h1⟩ := h.mp
  exact h1.look (e := 83) Tryz.underlying76 (zero_ent w) h0 hk
theorem MapF.look_ok {m n : Nat} {F : ByteArray → Option Nat} (h : MapF w m n F) {q : ByteArray} (hq : q.size ≤ 9223372036854775807) : (Instr.lookup 79 (.map (some m)) (.string q) true).run Tryz.prog w = .ok (.tuple #[(fmF F q).getD (.int .i64 0), .bool (fmF F q).isSome]) w := by
  obtain ⟨vals, h0, h1⟩ := h
  exact h1.look_ok (e := 3) Tryz.underlying79 (zero_intd w) h0.1 hq
theorem MapF.look {m n : Nat} {F : ByteArray → Option Nat} (h : MapF w m n F) {q : ByteArray} (hq : q.size ≤ 9223372036854775807) : (Instr.lookup 79 (.map (some m)) (.string q) false).run Tryz.prog w = .ok ((fmF F q).getD (.int .i64 0)) w := by
  obtain ⟨vals, h0, h1⟩ := h
  exact h1.look (e := 3) Tryz.underlying79 (zero_intd w) h0.1 hq
theorem dmF_nat (D : Nat → Option Dt) (k : Nat) : dmF D (k : Int) = (D k).map entV := by unfold dmF; rw [if_pos (by omega)]; rfl
theorem DiM.zpcs (h : DiM pc w L s) {n : Nat} {x : Ino} (hx : s.T n = some x) : S16 s.ls x.bl := h.tb.s16 h.sz hx
end

theorem dtable_any {pc : Prop} (L : Loc) (s : St) (w : World) (h : DiM pc w L s) :
    Calls Tryz.prog 12 #[.pointer (some ⟨L.d, 0, none⟩)] w fun e w' => e = .returned (.pointer (some ⟨L.t, 0, none⟩)) ∧ w = w' := by
  have hc := h.c0
  clear h
  go_enter Tryz.func12, Tryz.ntmps12
  go_wp2_with fail
  go_ret
  exact ⟨rfl, rfl⟩

/-- What a Read of an inode answers. -/
def rdV (E : Nat → Addr) (o : Option ByteArray) : Value := match o with | some b => .tuple #[.string b, .nilIface] | none => .tuple #[.string ⟨#[]⟩, erv E 3]
theorem dread_any {pc : Prop} (E : Nat → Addr) (B : Nat) (L : Loc) (s : St) (n : Nat) (x : Ino) (w : World) (h : DiM pc w L s) (hE : Env diGs B w E) (hN : s.N ≤ 1000000) (hx : s.T n = some x) :
    Calls Tryz.prog 25 #[.pointer (some ⟨L.t, 0, none⟩), .int .i64 (n : Int)] w fun e w' => e = .returned (rdV E (rdI s.ls x)) ∧ Below w.heap.size w w' := by
  refine (iread_any L.B L.t L.p L.r L.ps L.rs L.m s.N s.T s.us s.ls n x w h.tb (by have := h.klt hx; omega) hx (h.zpcs hx) E diGs B hE di_sum).mono ?_
  rintro e w' ⟨rfl, hb⟩
  refine ⟨?_, hb⟩
  unfold rdI rdV
  by_cases hc : crc (readB s.ls x).data.toList = crc x.data.data.toList
  · rw [if_pos hc, if_pos hc]
  · rw [if_neg hc, if_neg hc]
/-- Where the blocks are whole what is read is what was written. -/
theorem rdI_pc {pc : Prop} {w : World} {L : Loc} {s : St} (h : DiM pc w L s) (hpc : pc) {n : Nat} {x : Ino} (hx : s.T n = some x) : rdI s.ls x = some x.data := by
  have h1 := h.tb.ok n x hx
  have h2 := readB_pcs h1.len (h1.pcs hpc)
  unfold rdI
  rw [h2, if_pos rfl]

/-- What Inode answers: an error's number, or an inode. -/
def inoR (D : Nat → Option Dt) (k : Int) (q : ByteArray) : Except Nat Nat :=
  match (if 0 ≤ k then D k.toNat else none) with
  | none => .error 6
  | some e => match splitOf q with
    | none => .error 5
    | some _ => match e.F q with
      | none => .error 6
      | some n => .ok n
def inoV (E : Nat → Addr) (r : Except Nat Nat) : Value := match r with | .error c => .tuple #[.int .i64 0, evc E c] | .ok n => .tuple #[.int .i64 (n : Int), .nilIface]

set_option maxRecDepth 100000 in
set_option maxHeartbeats 4000000 in
theorem dinode_any {pc : Prop} (E : Nat → Addr) (B : Nat) (L : Loc) (s : St) (k : Int) (q : ByteArray) (w : World) (h : DiM pc w L s) (hE : Env diGs B w E) (hM : Ml w) (hk : K64 k) (hq : q.size < 4294967281) :
    Calls Tryz.prog 17 #[.pointer (some ⟨L.d, 0, none⟩), .int .i64 k, .string q] w fun e w' => e = .returned (inoV E (inoR s.D k q)) ∧ Below w.heap.size w w' := by
  have hc1 := h.c1
  have hl := h.look_ok hk
  have HE := hidd (fun W (hW : Below w.heap.size w W) => (hE.ob hW).cell _ di_none)
  have HSP := hidd (fun W (hW : Below w.heap.size w W) => split_any E B q W (hE.ob hW).di (hM.ob hW) hq)
  unfold erv at HE
  cases hd : (if 0 ≤ k then s.D k.toNat else none) with
  | none =>
    have e1 : dmF s.D k = none := by
      unfold dmF
      by_cases h0 : 0 ≤ k
      · rw [if_pos h0] at hd ⊢; rw [hd]; rfl
      · rw [if_neg h0]
    have HR : Hid (inoV E (inoR s.D k q) = .tuple #[.int .i64 0, evc E 6]) := hidd (by unfold inoR; rw [hd]; rfl)
    rw [e1] at hl
    simp only [Option.getD_none, Option.isSome_none, entZ] at hl
    have hB1 : Below w.heap.size w (w.alloc (.cells #[.string ⟨#[]⟩, .string ⟨#[]⟩, .bool false, .slice none 0 0, .map none] 83)) := (Below.refl _ _).alloc (Nat.le_refl _) _
    have he := HE.out _ hB1
    have HB := hidd hB1
    clear h hE hM HSP e1 hd hB1
    rw [HR.out, evc_ne (by decide)]
    go_enter Tryz.func17, Tryz.ntmps17
    go_wp2_with fail
    generalize w.alloc (.cells #[.string ⟨#[]⟩, .string ⟨#[]⟩, .bool false, .slice none 0 0, .map none] 83) = w1 at *
    go_quiet (fail)
    go_wp2_with fail
    go_ret2
    exact ⟨rfl, HB.out.trans (Below.drewN _ _ _)⟩
  | some e =>
    have e0 : 0 ≤ k ∧ s.D k.toNat = some e := by
      by_cases h0 : 0 ≤ k
      · rw [if_pos h0] at hd; exact ⟨h0, hd⟩
      · rw [if_neg h0] at hd; cases hd
    have e1 : dmF s.D k = some (entV e) := by unfold dmF; rw [if_pos e0.1, e0.2]; rfl
    have HR : Hid (inoR s.D k q = match splitOf q with | none => .error 5 | some _ => match e.F q with | none => .error 6 | some n => .ok n) := hidd (by unfold inoR; rw [hd])
    have hft := h.fms _ e e0.2
    obtain ⟨ta, tc, htv⟩ := (h.tr _ e e0.2).shape
    rw [e1] at hl
    simp only [Option.getD_some, Option.isSome_some, entV] at hl
    rw [htv] at hl
    have hB1 : Below w.heap.size w (w.alloc (.cells #[.string e.tr.kind, .string e.tr.data, .bool e.tr.exec, .slice ta e.tr.kids.length tc, .map (some e.fm)] 83)) := (Below.refl _ _).alloc (Nat.le_refl _) _
    have hbx := Blk.new w [.string e.tr.kind, .string e.tr.data, .bool e.tr.exec, .slice ta e.tr.kids.length tc, .map (some e.fm)] 83
    have HS := hidd (HSP.out _ hB1)
    have HFT := hidd (hft.low hB1)
    have HB := hidd hB1
    generalize e.tr.kids.length = tn at *
    clear h hE hM HSP e0 e1 hd hB1 hft htv
    go_enter Tryz.func17, Tryz.ntmps17
    go_wp2_with fail
    refine HS.out.mono ?_
    rintro e' w2 ⟨hb2, hr⟩
    rw [evc_ne (by decide)] at hr
    have HB2 := hidd (HB.out.trans (hb2.mono HB.out.size))
    have hbx2 := hbx.below hb2 hbx.lt
    have x4 := hbx2.cell (i := 4) rfl
    have hl2 := (HFT.out.low hb2).look_ok (q := q) (by omega)
    clear hb2 hbx hbx2 HS hl hc1
    rcases hr with ⟨l, v, hsp, rfl, hsl⟩ | ⟨hsp, rfl⟩
    · cases hF : e.F q with
      | none =>
        have HV : Hid (inoV E (inoR s.D k q) = .tuple #[.int .i64 0, evc E 6]) := hidd (by rw [HR.out, hsp, hF]; rfl)
        rw [show fmF e.F q = none by unfold fmF; rw [hF]; rfl] at hl2
        simp only [Option.getD_none, Option.isSome_none] at hl2
        have he := HE.out _ HB2.out
        clear hsl hsp hF
        go_wp2_with fail
        go_quiet (fail)
        go_wp2_with fail
        go_ret2
        exact ⟨by rw [HV.out, evc_ne (by decide)]; rfl, HB2.out.trans (Below.drewN _ _ _)⟩
      | some n =>
        have HV : Hid (inoV E (inoR s.D k q) = .tuple #[.int .i64 (n : Int), .nilIface]) := hidd (by rw [HR.out, hsp, hF]; rfl)
        rw [show fmF e.F q = some (.int .i64 (n : Int)) by unfold fmF; rw [hF]; rfl] at hl2
        simp only [Option.getD_some, Option.isSome_some] at hl2
        clear hsl hsp hF
        go_wp2_with fail
        go_ret2
        exact ⟨by rw [HV.out]; rfl, HB2.out⟩
    · have HV : Hid (inoV E (inoR s.D k q) = .tuple #[.int .i64 0, evc E 5]) := hidd (by rw [HR.out, hsp]; rfl)
      clear hl2 x4 hsp
      go_wp2_with fail
      go_ret2
      exact ⟨by rw [HV.out, evc_ne (by decide)]; rfl, HB2.out⟩
end Go.Proofs.YtoemahhpheobkaaGreatDoor
