/- Changes of trees: in plain words, and how they lie in memory. Condition: as stated. · The contracts of differ's add, kids and nodes. Condition: the trees are there, and lie ahead of the list of changes. · The contracts of differ's kids and nodes. Condition: the trees are there, well, and lie ahead of the list of changes. · The contracts of differ's nodes and of diff.Diff. Condition: the trees are there; differ's own: they are well, and lie ahead of the list of changes. · The closed fact of the changes' statements. Condition: the variables read as listed. -/
import Derived.Test.YtoaedkinlnkkhaaDoorPaK
import Derived.Test.YtoaedkinlnkkhaaDoorTrO
import Derived.Test.YtoaedkinlnkkhaaDoorPaP
import Derived.Test.YtoaedkinlnkkhaaDoorTrE
import Derived.Test.YtoaedkinlnkkhaaDoorPaF
import Derived.BigQuiet
import Derived.Test.YtoaedkinlnkkhaaDoorTrC
import Derived.Test.YtoaedkinlnkkhaaDoorPwQD
import Derived.Lib.MinMaxS
namespace Go.Proofs.YtoaedkinlnkkhaaDoor
open Go.RowKit

/-- A change. -/
structure Ch (α : Type) where
  kind : ByteArray
  path : ByteArray
  n : Tr α
def Ch.bare {α : Type} (c : Ch α) : Ch Unit := ⟨c.kind, c.path, c.n.bare⟩
def kDrop : ByteArray := ⟨#[100, 114, 111, 112]⟩
def kAdd : ByteArray := ⟨#[97, 100, 100]⟩
def kEdit : ByteArray := ⟨#[101, 100, 105, 116]⟩
/-- No node. -/
def NdZ : Nd := .mk ⟨#[]⟩ ⟨#[]⟩ false () []
/-- What two dirs' kids differ in. -/
def diffK (rec : Nd → Nd → ByteArray → List (Ch Unit)) (p : ByteArray) : List (ByteArray × Nd) → List (ByteArray × Nd) → List (Ch Unit)
  | [], [] => []
  | a :: xs, [] => ⟨kDrop, sub p a.1, NdZ⟩ :: diffK rec p xs []
  | [], b :: ys => ⟨kAdd, sub p b.1, b.2⟩ :: diffK rec p [] ys
  | a :: xs, b :: ys =>
    if cmpB a.1 b.1 < 0 then ⟨kDrop, sub p a.1, NdZ⟩ :: diffK rec p xs (b :: ys)
    else if 0 < cmpB a.1 b.1 then ⟨kAdd, sub p b.1, b.2⟩ :: diffK rec p (a :: xs) ys
    else rec a.2 b.2 (sub p a.1) ++ diffK rec p xs ys
termination_by xs ys => xs.length + ys.length
open Classical in
/-- What two nodes differ in, so deep at most. -/
noncomputable def diffT : Nat → Nd → Nd → ByteArray → List (Ch Unit)
  | 0, _, _, _ => []
  | m + 1, a, b, p => if a = b then [] else if a.kind = kDir ∧ b.kind = kDir then diffK (diffT m) p a.kids b.kids else [⟨kEdit, pathOf p, b⟩]
theorem diffK_nil (rec : Nd → Nd → ByteArray → List (Ch Unit)) (p : ByteArray) : diffK rec p [] [] = [] := by rw [diffK]
theorem diffK_left (rec : Nd → Nd → ByteArray → List (Ch Unit)) (p : ByteArray) {a : ByteArray × Nd} {xs ys : List (ByteArray × Nd)} (h : ∀ b ys', ys = b :: ys' → cmpB a.1 b.1 < 0) : diffK rec p (a :: xs) ys = ⟨kDrop, sub p a.1, NdZ⟩ :: diffK rec p xs ys := by
  cases ys with
  | nil => rw [diffK]
  | cons b ys => rw [diffK, if_pos (h b ys rfl)]
theorem diffK_right (rec : Nd → Nd → ByteArray → List (Ch Unit)) (p : ByteArray) {b : ByteArray × Nd} {xs ys : List (ByteArray × Nd)} (h : ∀ a xs', xs = a :: xs' → 0 < cmpB a.1 b.1) : diffK rec p xs (b :: ys) = ⟨kAdd, sub p b.1, b.2⟩ :: diffK rec p xs ys := by
  cases xs with
  | nil => rw [diffK]
  | cons a xs => have := h a xs rfl; rw [diffK, if_neg (by omega), if_pos this]
theorem diffK_both (rec : Nd → Nd → ByteArray → List (Ch Unit)) (p : ByteArray) {a b : ByteArray × Nd} {xs ys : List (ByteArray × Nd)} (h : cmpB a.1 b.1 = 0) : diffK rec p (a :: xs) (b :: ys) = rec a.2 b.2 (sub p a.1) ++ diffK rec p xs ys := by
  rw [diffK, if_neg (by omega), if_neg (by omega)]
theorem diffT_same (m : Nat) (a : Nd) (p : ByteArray) : diffT m a a p = [] := by
  cases m with
  | zero => rw [diffT]
  | succ m => rw [diffT, if_pos rfl]
theorem diffT_dirs {m : Nat} {a b : Nd} {p : ByteArray} (h : a ≠ b) (h1 : a.kind = kDir) (h2 : b.kind = kDir) : diffT (m + 1) a b p = diffK (diffT m) p a.kids b.kids := by rw [diffT, if_neg h, if_pos ⟨h1, h2⟩]
theorem diffT_edit {m : Nat} {a b : Nd} {p : ByteArray} (h : a ≠ b) (h1 : ¬ (a.kind = kDir ∧ b.kind = kDir)) : diffT (m + 1) a b p = [⟨kEdit, pathOf p, b⟩] := by rw [diffT, if_neg h, if_neg h1]
theorem diffK_len {rec : Nd → Nd → ByteArray → List (Ch Unit)} (hr : ∀ a b p, (rec a b p).length ≤ a.sz + b.sz) (p : ByteArray) : ∀ (k : Nat) (xs ys : List (ByteArray × Nd)), xs.length + ys.length ≤ k → (diffK rec p xs ys).length ≤ Tr.szs xs + Tr.szs ys
  | _, [], [], _ => by rw [diffK_nil]; simp
  | 0, _ :: _, _, h => by simp at h
  | 0, [], _ :: _, h => by simp at h
  | k + 1, (n, t) :: xs, [], h => by
    rw [diffK_left _ _ (fun b ys' e => by cases e), List.length_cons]
    have := diffK_len hr p k xs [] (by simp at h ⊢; omega)
    have := Tr.sz_kids t
    simp only [Tr.szs] at *
    omega
  | k + 1, [], (n, t) :: ys, h => by
    rw [diffK_right _ _ (fun b ys' e => by cases e), List.length_cons]
    have := diffK_len hr p k [] ys (by simp at h ⊢; omega)
    have := Tr.sz_kids t
    simp only [Tr.szs] at *
    omega
  | k + 1, (n, t) :: xs, (n', t') :: ys, h => by
    have h1 := Tr.sz_kids t
    have h2 := Tr.sz_kids t'
    simp only [List.length_cons] at h
    by_cases hc : cmpB n n' < 0
    · rw [diffK_left _ _ (fun b ys' e => by cases e; exact hc), List.length_cons]
      have := diffK_len hr p k xs ((n', t') :: ys) (by simp; omega)
      simp only [Tr.szs] at *
      omega
    · by_cases hd : 0 < cmpB n n'
      · rw [diffK_right _ _ (fun b ys' e => by cases e; exact hd), List.length_cons]
        have := diffK_len hr p k ((n, t) :: xs) ys (by simp; omega)
        simp only [Tr.szs] at *
        omega
      · rw [diffK_both _ _ (by simp only; omega), List.length_append]
        have := diffK_len hr p k xs ys (by omega)
        have := hr t t' (sub p n)
        simp only [Tr.szs] at *
        omega
theorem diffT_len : ∀ (m : Nat) (a b : Nd) (p : ByteArray), (diffT m a b p).length ≤ a.sz + b.sz
  | 0, a, b, p => by rw [diffT]; simp
  | m + 1, a, b, p => by
    have h1 := Tr.sz_kids a
    have h2 := Tr.sz_kids b
    by_cases h : a = b
    · subst h; rw [diffT_same]; simp
    · by_cases hd : a.kind = kDir ∧ b.kind = kDir
      · rw [diffT_dirs h hd.1 hd.2]
        have := diffK_len (diffT_len m) p _ a.kids b.kids (Nat.le_refl _)
        omega
      · rw [diffT_edit h hd]; simp; omega

def chcell (c : Ch Value) : List Value := .string c.kind :: .string c.path :: ncells c.n
def chcells (l : List (Ch Value)) : List Value := l.flatMap chcell
theorem chcells_len (l : List (Ch Value)) : (chcells l).length = l.length * 6 := by
  induction l with
  | nil => rfl
  | cons x r ih =>
    have e : chcells (x :: r) = .string x.kind :: .string x.path :: .string x.n.kind :: .string x.n.data :: .bool x.n.exec :: x.n.v :: chcells r := rfl
    rw [e]; simp only [List.length_cons, ih]; omega
theorem chcells_app (a b : List (Ch Value)) : chcells (a ++ b) = chcells a ++ chcells b := by simp [chcells]
theorem chcells_at : ∀ (l : List (Ch Value)) (i : Nat) (h : i < l.length), (chcells l)[i * 6]? = some (.string l[i].kind) ∧ (chcells l)[i * 6 + 1]? = some (.string l[i].path) ∧ (chcells l)[i * 6 + 2]? = some (.string l[i].n.kind) ∧ (chcells l)[i * 6 + 3]? = some (.string l[i].n.data) ∧ (chcells l)[i * 6 + 4]? = some (.bool l[i].n.exec) ∧ (chcells l)[i * 6 + 5]? = some l[i].n.v
  | x :: l, 0, h => ⟨rfl, rfl, rfl, rfl, rfl, rfl⟩
  | x :: l, i + 1, h => by
    have := chcells_at l i (by simpa using h)
    have e : chcells (x :: l) = .string x.kind :: .string x.path :: .string x.n.kind :: .string x.n.data :: .bool x.n.exec :: x.n.v :: chcells l := rfl
    rw [e, show (i + 1) * 6 = i * 6 + 1 + 1 + 1 + 1 + 1 + 1 by omega, show i * 6 + 1 + 1 + 1 + 1 + 1 + 1 + 2 = i * 6 + 2 + 1 + 1 + 1 + 1 + 1 + 1 by omega,
      show i * 6 + 1 + 1 + 1 + 1 + 1 + 1 + 3 = i * 6 + 3 + 1 + 1 + 1 + 1 + 1 + 1 by omega, show i * 6 + 1 + 1 + 1 + 1 + 1 + 1 + 4 = i * 6 + 4 + 1 + 1 + 1 + 1 + 1 + 1 by omega, show i * 6 + 1 + 1 + 1 + 1 + 1 + 1 + 5 = i * 6 + 5 + 1 + 1 + 1 + 1 + 1 + 1 by omega]
    simpa using this
/-- The cells of change i, in the walk's spelling. -/
theorem sl_atc {w : World} {a : Option Addr} {n cap : Nat} {l : List (Ch Value)} (h : Sl w (.slice a n cap) (chcells l) n 6) {i : Nat} (hi : i < l.length) :
    ∃ b off, a = some ⟨b, off, none⟩ ∧ b < w.heap.size ∧ w.cell? ⟨b, off + i * 6, none⟩ = some (.string l[i].kind) ∧ w.cell? ⟨b, off + i * 6 + 1, none⟩ = some (.string l[i].path) ∧ w.cell? ⟨b, off + i * 6 + 2, none⟩ = some (.string l[i].n.kind) ∧ w.cell? ⟨b, off + i * 6 + 3, none⟩ = some (.string l[i].n.data) ∧ w.cell? ⟨b, off + i * 6 + 4, none⟩ = some (.bool l[i].n.exec) ∧ w.cell? ⟨b, off + i * 6 + 5, none⟩ = some l[i].n.v := by
  obtain ⟨a', cap', he, h1, h2, h2', h3⟩ := h
  simp only [Value.slice.injEq] at he
  obtain ⟨rfl, _, rfl⟩ := he
  have hl := chcells_len l
  rcases h3 with h3 | ⟨b, off, rfl, h4, h5⟩
  · omega
  · obtain ⟨k0, k1, k2, k3, k4, k5⟩ := chcells_at l i hi
    refine ⟨b, off, rfl, h4, ?_, ?_, ?_, ?_, ?_, ?_⟩
    · rw [h5 _ (by omega)]; rw [List.getElem?_eq_getElem (by omega)] at k0; exact k0
    · rw [Nat.add_assoc, h5 _ (by omega)]; rw [List.getElem?_eq_getElem (by omega)] at k1; exact k1
    · rw [Nat.add_assoc, h5 _ (by omega)]; rw [List.getElem?_eq_getElem (by omega)] at k2; exact k2
    · rw [Nat.add_assoc, h5 _ (by omega)]; rw [List.getElem?_eq_getElem (by omega)] at k3; exact k3
    · rw [Nat.add_assoc, h5 _ (by omega)]; rw [List.getElem?_eq_getElem (by omega)] at k4; exact k4
    · rw [Nat.add_assoc, h5 _ (by omega)]; rw [List.getElem?_eq_getElem (by omega)] at k5; exact k5
theorem infoCh : (Tryd.prog.info? 38).map (fun i => (i.zero, i.size, i.bytes)) = some (some (.agg #[.string ⟨#[]⟩, .string ⟨#[]⟩, .string ⟨#[]⟩, .string ⟨#[]⟩, .bool false, .slice none 0 0]), 6, 96) := by kernel_rfl
/-- The list of changes under way: its pointer's block, its rows, its nodes. -/
structure DfI (pd : Nat) (ls : List (Ch Value)) (v : Value) (W : World) : Prop where
  b : Blk W pd [v] 55
  ow : Ow (fun g => pd < g) W 38 6 v ls.length (chcells ls)
  ok : ∀ c ∈ ls, c.n.Ok W
  inn : ∀ c ∈ ls, c.n.In (fun b => b < W.heap.size ∧ pd < b ∧ v.ownBlock ≠ some b)
section
variable {pd : Nat} {ls : List (Ch Value)} {v : Value} {W W' : World}
theorem DfI.later (h : DfI pd ls v W) (hb : Below W.heap.size W W') : DfI pd ls v W' :=
  ⟨h.b.below hb h.b.lt, h.ow.ob hb, fun c hc => (h.ok c hc).ob hb, fun c hc => in_mono (fun b hh => ⟨by have := hb.size; omega, hh.2⟩) c.n (h.inn c hc)⟩
theorem DfI.start (w : World) : DfI w.heap.size [] (.slice none 0 0) (w.alloc (.cells #[.slice none 0 0] 55)) :=
  ⟨Blk.new w [.slice none 0 0] _, Ow.nil _ _ _ _, (fun c hc => by cases hc), (fun c hc => by cases hc)⟩
/-- One change more. -/
theorem DfI.app (h : DfI pd ls v W) {v' : Value} {c : Ch Value} (hF : Fr (fun b => b = pd ∨ v.ownBlock = some b) W W') (hb : Blk W' pd [v'] 55)
    (how : Ow (fun g => W.heap.size ≤ g ∨ v.ownBlock = some g) W' 38 6 v' (ls.length + 1) (chcells ls ++ chcells [c])) (hk : c.n.Ok W) (hki : c.n.In (fun b => b < W.heap.size ∧ pd < b ∧ v.ownBlock ≠ some b)) : DfI pd (ls ++ [c]) v' W' := by
  have hz := hF.size
  have hlt := h.b.lt
  have hob := h.ow.blk
  have hnb := how.blk
  have key : ∀ b, (b < W.heap.size ∧ pd < b ∧ v.ownBlock ≠ some b) → b < W'.heap.size ∧ pd < b ∧ v'.ownBlock ≠ some b := fun b hh => ⟨by omega, hh.2.1, fun e => by
    rcases (hnb b e).1 with h2 | h2
    · omega
    · exact hh.2.2 h2⟩
  have no : ∀ b, (b < W.heap.size ∧ pd < b ∧ v.ownBlock ≠ some b) → ¬ (b = pd ∨ v.ownBlock = some b) := fun b hh e => by
    rcases e with e | e
    · omega
    · exact hh.2.2 e
  refine ⟨hb, ?_, fun x hx => ?_, fun x hx => ?_⟩
  · rw [chcells_app, List.length_append]
    exact how.mono (fun g hg => by
      rcases hg with h1 | h1
      · omega
      · exact (hob g h1).1)
  · rcases List.mem_append.1 hx with h1 | h1
    · exact ok_fr hF x.n (h.ok x h1) (in_mono no x.n (h.inn x h1))
    · simp only [List.mem_cons, List.not_mem_nil, or_false] at h1
      subst h1
      exact ok_fr hF x.n hk (in_mono no x.n hki)
  · rcases List.mem_append.1 hx with h1 | h1
    · exact in_mono key x.n (h.inn x h1)
    · simp only [List.mem_cons, List.not_mem_nil, or_false] at h1
      subst h1
      exact in_mono key x.n hki
end
end Go.Proofs.YtoaedkinlnkkhaaDoor

namespace Go.Proofs.YtoaedkinlnkkhaaDoor
open Go.RowKit Go.Shelf

/-- What a call of differ's gives: changes more. -/
def AddP (pd : Nat) (ls : List (Ch Value)) (D : List (Ch Unit)) (w : World) (e : Ending) (w' : World) : Prop :=
  e = .returned (.tuple #[]) ∧ ∃ (ls' : List (Ch Value)) (v' : Value), DfI pd (ls ++ ls') v' w' ∧ ls'.map Ch.bare = D ∧ Below pd w w'

set_option maxRecDepth 100000 in
set_option maxHeartbeats 4000000 in
theorem add_any (pd : Nat) (ls : List (Ch Value)) (v : Value) (k p : ByteArray) (n : Lt) (w : World) (h : DfI pd ls v w) (hl : ls.length ≤ 100000) (hn : n.Ok w) (hni : n.In (fun b => b < w.heap.size ∧ pd < b ∧ v.ownBlock ≠ some b)) :
    Calls Tryd.prog 31 #[.pointer (some ⟨pd, 0, none⟩), .string k, .string p, nval n] w (AddP pd ls [⟨k, p, n.bare⟩] w) := by
  obtain ⟨i0, hii, hz0, hz1, hz2⟩ := info_parts infoCh
  obtain ⟨na, nc, hnv⟩ := hn.shape
  obtain ⟨va, vc, rfl⟩ := h.ow.shape
  obtain ⟨kn, dn, en, vn, ksn⟩ := n
  simp only [Tr.v, Tr.kids] at hnv
  subst hnv
  unfold nval
  simp only [Tr.kind, Tr.data, Tr.exec, Tr.v]
  have hBa : Below w.heap.size w (w.alloc (.cells #[.string kn, .string dn, .bool en, .slice na ksn.length nc] 24)) := (Below.refl _ _).alloc (Nat.le_refl _) _
  have hq := Blk.new w [.string kn, .string dn, .bool en, .slice na ksn.length nc] 24
  have h1 := h.later hBa
  have HN := hidd (hn.ob hBa)
  have HNI := hidd (in_mono (fun b (hb : b < w.heap.size ∧ pd < b ∧ (Value.slice va ls.length vc).ownBlock ≠ some b) => (⟨by simp; omega, hb.2⟩ : b < (w.alloc (.cells #[.string kn, .string dn, .bool en, .slice na ksn.length nc] 24)).heap.size ∧ pd < b ∧ (Value.slice va ls.length vc).ownBlock ≠ some b)) _ hni)
  have hpw : pd < w.heap.size := h.b.lt
  clear h hn hni
  go_enter Tryd.func31, Tryd.ntmps31
  go_upto_region 1 with fail
  obtain ⟨nb, hnb⟩ : ∃ nb, w.heap.size = nb := ⟨_, rfl⟩
  have HNB := hidd hnb
  rw [hnb] at hq hBa hpw ⊢
  generalize w.alloc (.cells #[.string kn, .string dn, .bool en, .slice na ksn.length nc] 24) = w1 at *
  have hp1 : pd < w1.heap.size := h1.b.lt
  have hp2 : nb < w1.heap.size := hq.lt
  have c0 := h1.b.cell (i := 0) rfl
  have n0 := hq.cell (i := 0) rfl
  have n1 := hq.cell (i := 1) rfl
  have n2 := hq.cell (i := 2) rfl
  have n3 := hq.cell (i := 3) rfl
  have d0 : w1.drew.cell? ⟨pd, 0, none⟩ = some (.slice va ls.length vc) := c0
  have ho := h1.ow
  have hbo := ho.blk
  have hs1 := Src.new (P := Tryd.prog) (size := 6) (tx := 28) Tryd.underlying28 w1.drew w1.heap.size rfl [.string k, .string p, .string kn, .string dn, .bool en, .slice na ksn.length nc] 38 rfl (by intro u hu; simp only [List.mem_cons, List.not_mem_nil, or_false] at hu; rcases hu with rfl | rfl | rfl | rfl | rfl | rfl <;> rfl) 1
  have H1 := hidd h1
  have HB4 : Hid (∀ w4, (w1.drew.alloc (.cells [Value.string k, .string p, .string kn, .string dn, .bool en, .slice na ksn.length nc].toArray 38)).grownBy w4 (Value.slice va ls.length vc).ownBlock → Blk w4 pd [.slice va ls.length vc] 55) :=
    hidd (fun w4 hg => (H1.out.b.drew.alloc _).grown hg (fun e => by have := (H1.out.ow.blk pd e.symm).1; omega))
  clear h1 hnb
  go_region_law (first
    | (refine step_append_tr rfl (.tmp 12) (.tmp 17) 28 28 rfl (fun g => w1.heap.size ≤ g ∨ (Value.slice va ls.length vc).ownBlock = some g) (fun g hg => by (try simp at hg); exact .inl (by omega)) 38 i0 _ 6 96 Tryd.underlying28 hii hz0 hz1 hz2 rfl (by decide) _ _ _ (by simp [Act.eval]) ((ho.self.mono (fun g hg => .inr hg)).drew.alloc _) _ _ _ (by simp [Act.eval]) hs1 (by unfold maxLen; omega) (by omega) ?_; intro v' w4 ho4 hg4; obtain ⟨a', cap', hv'⟩ := ho4.shape; subst hv'; have hb4 := HB4.out _ hg4; have y0 := hb4.cell (i := 0) rfl; have f0 := hb4.frozen 0))
  all_goals
    have hset := hb4.set 0 (.slice a' (ls.length + 1) cap')
    have hF4 : Fr (fun b => (Value.slice va ls.length vc).ownBlock = some b) w1 w4 := (((Fr.refl _ w1).drew).alloc _).grown hg4 (fun b hb => .inl hb)
    have hF5 := (hF4.mono (T := fun b => b = pd ∨ (Value.slice va ls.length vc).ownBlock = some b) (fun b _ h => .inr h)).setCell (p := ⟨pd, 0, none⟩) (.inl (.inl rfl)) (.slice a' (ls.length + 1) cap')
    have how5 := ho4.set (a := ⟨pd, 0, none⟩) (fun e => by
      rcases e with e | e
      · have e' : w1.heap.size ≤ pd := e
        omega
      · have := (hbo pd e).1; omega) (.slice a' (ls.length + 1) cap')
    have h5 := H1.out.app (c := ⟨k, p, .mk kn dn en (.slice na ksn.length nc) ksn⟩) hF5 hset how5 HN.out HNI.out
    have HB5 : Hid (Below pd w (w4.setCell ⟨pd, 0, none⟩ (.slice a' (ls.length + 1) cap'))) := hidd ((hBa.mono (by omega)).trans (hF5.below (by omega) (fun b e => by
      rcases e with e | e
      · omega
      · have := (hbo b e).1; omega)))
    have HH := hidd h5
    clear hset hF4 hF5 how5 h5
    go_end0
    exact ⟨rfl, [⟨k, p, .mk kn dn en (.slice na ksn.length nc) ksn⟩], _, HH.out, rfl, HB5.out⟩
end Go.Proofs.YtoaedkinlnkkhaaDoor

namespace Go.Proofs.YtoaedkinlnkkhaaDoor
open Go.RowKit Go.Shelf

def slLn : Value → Nat
  | .slice _ n _ => n
  | _ => 0
/-- Kids that are there, ahead of the list of changes. -/
structure KsI (pd : Nat) (xs : List (ByteArray × Lt)) (va : Value) (w : World) : Prop where
  sl : Sl w va (kcells xs) xs.length 5
  blk : xs ≠ [] → ∀ b, va.ownBlock = some b → b < pd
  ok : ∀ x ∈ xs, x.2.Ok w
  inn : ∀ x ∈ xs, x.2.In (fun b => b < pd)
  e0 : ∀ x ∈ xs, treeE x.2 = 0
  nm : ∀ x ∈ xs, x.1.size ≤ 12
theorem KsI.later {pd : Nat} {xs : List (ByteArray × Lt)} {va : Value} {w w' : World} (h : KsI pd xs va w) (hb : Below pd w w') : KsI pd xs va w' := by
  have hF : Fr (fun b => pd ≤ b) w w' := Fr.of_below hb (fun i _ h => h)
  exact ⟨sl_fr0 hF xs h.sl (fun hn b e => by have := h.blk hn b e; omega), h.blk, fun x hx => ok_fr hF x.2 (h.ok x hx) (in_mono (fun b hb => by omega) x.2 (h.inn x hx)), h.inn, h.e0, h.nm⟩
theorem KsI.tail {pd : Nat} {x : ByteArray × Lt} {r : List (ByteArray × Lt)} {b off len cap : Nat} {w : World} (h : KsI pd (x :: r) (.slice (some ⟨b, off, none⟩) len cap) w) :
    KsI pd r (.slice (if cap = 1 then some (⟨b, off, none⟩ : Addr) else some ⟨b, off + 5, none⟩) r.length (cap - 1)) w := by
  refine ⟨?_, fun _ b' hb' => ?_, fun y hy => h.ok y (List.mem_cons_of_mem _ hy), fun y hy => h.inn y (List.mem_cons_of_mem _ hy), fun y hy => h.e0 y (List.mem_cons_of_mem _ hy), fun y hy => h.nm y (List.mem_cons_of_mem _ hy)⟩
  · obtain ⟨a', cap', he, h1, h2, h2', h3⟩ := h.sl
    simp only [Value.slice.injEq] at he
    obtain ⟨rfl, rfl, rfl⟩ := he
    simp only [List.length_cons] at h2
    refine ⟨_, _, rfl, by rw [kcells_len], by omega, by omega, ?_⟩
    by_cases e : cap = 1
    · left
      have : r = [] := List.eq_nil_of_length_eq_zero (by omega)
      subst this; rfl
    · rw [if_neg e]
      rcases h3 with h3 | ⟨b', off', e, hb, hc⟩
      · have e5 := kcells_len (x :: r)
        simp only [List.length_cons] at e5
        omega
      · simp only [Option.some.injEq, Addr.mk.injEq] at e
        obtain ⟨rfl, rfl, -⟩ := e
        refine .inr ⟨b, off + 5, rfl, hb, fun j hj => ?_⟩
        have e6 : kcells (x :: r) = .string x.1 :: .string x.2.kind :: .string x.2.data :: .bool x.2.exec :: x.2.v :: kcells r := rfl
        have := hc (j + 5) (by rw [e6]; simp; exact hj)
        rw [show off + 5 + j = off + (j + 5) by omega, this]
        simp only [e6, List.getElem_cons_succ]
  · refine h.blk (by simp) b' ?_
    split at hb' <;> exact hb'
def NodesH (m : Nat) : Prop := ∀ (pd : Nat) (ls : List (Ch Value)) (v : Value) (a b : Lt) (p : ByteArray) (w : World), a.sz ≤ m → treeE a = 0 → treeE b = 0 → a.Ok w → b.Ok w → a.In (fun i => i < pd) → b.In (fun i => i < pd) → DfI pd ls v w →
  ls.length + a.sz + b.sz ≤ 100000 → p.size + 20 * m ≤ 100000 → Calls Tryd.prog 19 #[.pointer (some ⟨pd, 0, none⟩), nval a, nval b, .string p] w (AddP pd ls (diffT m a.bare b.bare p) w)
def mapB (l : List (ByteArray × Lt)) : List (ByteArray × Nd) := l.map fun x => (x.1, x.2.bare)
theorem szs_bare (l : List (ByteArray × Lt)) : Tr.szs (mapB l) = Tr.szs l := by
  have e : ∀ t : Lt, t.bare.sz = t.sz := fun t => by rw [← pre_len ⟨#[]⟩ 0, ← pre_len ⟨#[]⟩ 0 t]; unfold Tr.bare; rw [pre_map, List.length_map]
  induction l with
  | nil => rfl
  | cons x r ih => obtain ⟨n, t⟩ := x; unfold mapB at ih ⊢; rw [List.map_cons, Tr.szs, Tr.szs, ih, e]
theorem sz_bare (t : Lt) : t.bare.sz = t.sz := by rw [← pre_len ⟨#[]⟩ 0, ← pre_len ⟨#[]⟩ 0 t]; unfold Tr.bare; rw [pre_map, List.length_map]
/-- No node. -/
def zLt : Lt := .mk ⟨#[]⟩ ⟨#[]⟩ false (.slice none 0 0) []
theorem zLt_ok (w : World) : zLt.Ok w := Tr.Ok.mk' (Sl.nil _ _) (fun x hx => by cases hx) (fun x hx => by cases hx)
theorem zLt_in (F : Nat → Prop) : zLt.In F := by unfold zLt; rw [Tr.In]; exact ⟨fun h => absurd rfl h, by rw [InS]; trivial⟩
theorem zLt_bare : zLt.bare = NdZ := by unfold zLt NdZ; rw [Tr.bare, Tr.map, Tr.maps]
/-- Changes made so far, and those to come. -/
def DfR (pd : Nat) (ls : List (Ch Value)) (m : Nat) (p : ByteArray) (D : List (Ch Unit)) (w : World) (xs ys : List (ByteArray × Lt)) (va vb : Value) (W : World) : Prop :=
  ∃ (l : List (Ch Value)) (v : Value), DfI pd (ls ++ l) v W ∧ l.map Ch.bare ++ diffK (diffT m) p (mapB xs) (mapB ys) = D ∧ KsI pd xs va W ∧ KsI pd ys vb W ∧ Below pd w W ∧ (ls ++ l).length + Tr.szs xs + Tr.szs ys ≤ 100000 ∧ ∀ x ∈ xs, x.2.sz ≤ m
theorem DfR.drewN {pd : Nat} {ls : List (Ch Value)} {m : Nat} {p : ByteArray} {D : List (Ch Unit)} {w W : World} {xs ys : List (ByteArray × Lt)} {va vb : Value} (h : DfR pd ls m p D w xs ys va vb W) (n : Nat) : DfR pd ls m p D w xs ys va vb (W.drewN n) := by
  obtain ⟨l, v, h1, h2, h3, h4, h5, h6, h7⟩ := h
  have hb : Below W.heap.size W (W.drewN n) := Below.drewN _ _ _
  have hp : pd ≤ W.heap.size := Nat.le_of_lt h1.b.lt
  exact ⟨l, v, h1.later hb, h2, h3.later (hb.mono hp), h4.later (hb.mono hp), h5.trans (hb.mono hp), h6, h7⟩
theorem DfR.step {pd : Nat} {ls l l2 : List (Ch Value)} {m : Nat} {p : ByteArray} {D Dc : List (Ch Unit)} {w W W' : World} {xs ys xs' ys' : List (ByteArray × Lt)} {va' vb' v' : Value}
    (hD : l.map Ch.bare ++ diffK (diffT m) p (mapB xs) (mapB ys) = D) (hb : Below pd w W) (hn : (ls ++ l).length + Tr.szs xs + Tr.szs ys ≤ 100000) (hs : ∀ x ∈ xs, x.2.sz ≤ m)
    (hI : DfI pd (ls ++ l ++ l2) v' W') (h2 : l2.map Ch.bare = Dc) (hc : diffK (diffT m) p (mapB xs) (mapB ys) = Dc ++ diffK (diffT m) p (mapB xs') (mapB ys')) (hl : Dc.length + Tr.szs xs' + Tr.szs ys' ≤ Tr.szs xs + Tr.szs ys)
    (hx : KsI pd xs' va' W') (hy : KsI pd ys' vb' W') (hb2 : Below pd W W') (hsx : ∀ x ∈ xs', x ∈ xs) : DfR pd ls m p D w xs' ys' va' vb' W' := by
  refine ⟨l ++ l2, v', by rw [← List.append_assoc]; exact hI, ?_, hx, hy, hb.trans hb2, ?_, fun x h => hs x (hsx x h)⟩
  · rw [List.map_append, h2, List.append_assoc, ← hc, hD]
  · have e : l2.length = Dc.length := by rw [← h2, List.length_map]
    simp only [List.length_append] at hn ⊢
    omega

set_option maxRecDepth 100000 in
set_option maxHeartbeats 40000000 in
theorem kids_step (m : Nat) (hN : NodesH m) (pd : Nat) (ls : List (Ch Value)) (v : Value) (xs ys : List (ByteArray × Lt)) (va vb : Value) (p : ByteArray) (w : World) (hI : DfI pd ls v w) (hX : KsI pd xs va w) (hY : KsI pd ys vb w)
    (hn : ls.length + Tr.szs xs + Tr.szs ys ≤ 100000) (hs : ∀ x ∈ xs, x.2.sz ≤ m) (hp : p.size + 20 * m + 20 ≤ 100000) :
    Calls Tryd.prog 30 #[.pointer (some ⟨pd, 0, none⟩), va, vb, .string p] w (AddP pd ls (diffK (diffT m) p (mapB xs) (mapB ys)) w) := by
  obtain ⟨xa, xc, rfl, -⟩ := id hX.sl
  obtain ⟨ya, yc, rfl, -⟩ := id hY.sl
  obtain ⟨D, hD⟩ : ∃ D, diffK (diffT m) p (mapB xs) (mapB ys) = D := ⟨_, rfl⟩
  rw [hD]
  have hR : DfR pd ls m p D w xs ys (.slice xa xs.length xc) (.slice ya ys.length yc) w := ⟨[], v, by rw [List.append_nil]; exact hI, hD, hX, hY, Below.refl _ _, by rw [List.append_nil]; exact hn, hs⟩
  clear hI hX hY hn hs hD
  have HNH := hidd hN
  clear hN
  go_enter Tryd.func30, Tryd.ntmps30
  go_wp2_with fail
  go_loopw [1, 2, 8] (fun va vb _ wr => ∃ (xs ys : List (ByteArray × Lt)), DfR pd ls m p D w xs ys va vb wr) (fun va vb _ _ => slLn va + slLn vb)
  case atStart => exact ⟨xs, ys, hR⟩
  case round =>
    obtain ⟨xs, ys, l, v, hI, hD, hX, hY, hB, hn, hs⟩ := hrel
    obtain ⟨xa, xc, rfl, -⟩ := id hX.sl
    obtain ⟨ya, yc, rfl, -⟩ := id hY.sl
    have hxl := hX.sl.le
    have hyl := hY.sl.le
    cases xs with
    | nil =>
      cases ys with
      | nil =>
        have HF : Hid (AddP pd ls D w (.returned (.tuple #[])) wr) := hidd ⟨rfl, l, v, hI, by rw [← hD]; simp [mapB, diffK_nil], hB⟩
        simp only [List.length_nil]
        clear hI hD hX hY hB hn hs
        go_wp2_with fail
        go_end0
        exact HF.out
      | cons y q =>
        simp only [List.length_cons, List.length_nil] at *
        obtain ⟨yb, yo, rfl, hyb, g0, g1, g2, g3, g4⟩ := sl_at5 hY.sl (i := 0) (by simp)
        simp only [Nat.zero_mul, Nat.add_zero, List.getElem_cons_zero] at g0 g1 g2 g3 g4
        have hYT := hY.tail
        obtain ⟨B2, hB2⟩ : ∃ B2, (if yc = 1 then some (⟨yb, yo, none⟩ : Addr) else some ⟨yb, yo + 5, none⟩) = B2 := ⟨_, rfl⟩
        rw [hB2] at hYT
        have HYT := hidd hYT
        have hyn := hY.nm y (List.mem_cons_self ..)
        have qc1 : (1 : Int) ≤ ((q.length + 1 : Nat) : Int) := by omega
        have qc1' : (1 : Int) ≤ (q.length : Int) + 1 := by omega
        have qc2 : q.length + 1 ≤ yc := by
          obtain ⟨_, _, he, _, h2, _⟩ := hY.sl
          simp only [Value.slice.injEq] at he
          simp only [List.length_cons] at h2 he
          omega
        have qc3 : ((q.length + 1 : Nat) : Int) ≤ (yc : Int) := by omega
        have s1 : ¬ (9223372036854775807 < p.size + 1) := by omega
        have s2 : ¬ (9223372036854775807 < p.size + 1 + y.1.size) := by omega
        clear hYT
        obtain ⟨yn, yt⟩ := y
        have hyo := hY.ok _ (List.mem_cons_self ..)
        have hysz := right_sz (hY.e0 _ (List.mem_cons_self ..))
        simp only at hyo hysz hyn s2 g0 g1 g2 g3 g4
        obtain ⟨Dc, hDc⟩ : ∃ Dc, [(⟨kAdd, sub p yn, yt.bare⟩ : Ch Unit)] = Dc := ⟨_, rfl⟩
        have HDC : Hid (diffK (diffT m) p (mapB []) (mapB ((yn, yt) :: q)) = Dc ++ diffK (diffT m) p (mapB []) (mapB q)) := hidd (by rw [← hDc]; exact diffK_right (diffT m) p (b := (yn, yt.bare)) (xs := mapB []) (ys := mapB q) (fun b ys' e => by cases e))
        have HDL : Hid (Dc.length = 1) := hidd (by rw [← hDc]; rfl)
        obtain ⟨yga, ygc, hyv⟩ := hyo.shape
        have HCP := hidd (fun W (h : Below wr.heap.size wr W) => copy_any 300 yt W (by omega) (Nat.le_refl _) (hyo.ob h))
        have HAD := hidd (fun W (n : Lt) (h : Below wr.heap.size wr W) (hn' : n.Ok W) (hni : n.In (fun b => b < W.heap.size ∧ wr.heap.size ≤ b)) => add_any pd (ls ++ l) v kAdd (sub p yn) n W (hI.later h) (by omega) hn' (in_mono (fun b hb => ⟨hb.1, by have := hI.b.lt; omega, fun e => by have := (hI.ow.blk b e).2; omega⟩) n hni))
        unfold sub kAdd at HAD
        simp only [nval, Tr.kind, Tr.data, Tr.exec, Tr.v] at HAD
        obtain ⟨ky, dy, ey, vy, ksy⟩ := yt
        simp only [Tr.v, Tr.kids, Tr.kind, Tr.data, Tr.exec] at hyv g1 g2 g3 g4
        subst hyv
        simp only [nval, Tr.kind, Tr.data, Tr.exec, Tr.v] at HCP
        have hz0 : Below wr.heap.size wr wr.drew := (Below.refl _ _).drew
        have hybp : yb < pd := hY.blk (by simp) yb rfl
        have hpdw : pd ≤ wr.heap.size := Nat.le_of_lt hI.b.lt
        have HSC : Hid (∀ W, Below pd wr W → W.cell? ⟨yb, yo, none⟩ = some (.string yn) ∧ W.cell? ⟨yb, yo + 1, none⟩ = some (.string ky) ∧ W.cell? ⟨yb, yo + 2, none⟩ = some (.string dy) ∧ W.cell? ⟨yb, yo + 3, none⟩ = some (.bool ey) ∧ W.cell? ⟨yb, yo + 4, none⟩ = some (.slice yga ksy.length ygc)) := hidd (fun W h =>
          ⟨(h.cell (p := ⟨yb, _, none⟩) hybp).trans g0, (h.cell (p := ⟨yb, _, none⟩) hybp).trans g1, (h.cell (p := ⟨yb, _, none⟩) hybp).trans g2, (h.cell (p := ⟨yb, _, none⟩) hybp).trans g3, (h.cell (p := ⟨yb, _, none⟩) hybp).trans g4⟩)
        have HX := hidd hX
        have HY := hidd hY
        have HI := hidd hI
        have HDD := hidd hD
        have HBB := hidd hB
        have HNN := hidd hn
        have HSS := hidd hs
        have HDCV := hidd hDc
        clear hDc hI hX hY hD hB hn hs hyo g0 g1 g2 g3 g4
        go_upto_region 13 with fail
        first
          | (go_region_held3 (fun W => W.cell? ⟨yb, yo, none⟩ = some (.string yn) ∧ W.cell? ⟨yb, yo + 1, none⟩ = some (.string ky) ∧ W.cell? ⟨yb, yo + 2, none⟩ = some (.string dy) ∧ W.cell? ⟨yb, yo + 3, none⟩ = some (.bool ey) ∧ W.cell? ⟨yb, yo + 4, none⟩ = some (.slice yga ksy.length ygc))
              (first | exact HSC.out _ (hz0.mono hpdw) | exact HSC.out _ (hz4.mono hpdw) | exact HSC.out _ hz5)
              (first
                | (go_at_call 20; (with_reducible refine (HCP.out _ hz0).mono ?_); rintro e w4 ⟨na, nc, ksn, rfl, hbr, hok, hin, hz4'⟩; have hz4 := hz0.trans (hz4'.mono (Nat.le_refl _)); have hin2 := in_mono (G := fun b => b < w4.heap.size ∧ wr.heap.size ≤ b) (fun b hb => ⟨hb.2, hb.1⟩) _ hin; simp only [Tr.kind, Tr.data, Tr.exec] at hbr hok hin2 ⊢)
                | (go_at_call 31; (with_reducible refine (HAD.out _ (.mk ky dy ey (.slice na ksn.length nc) ksn) hz4 hok hin2).mono ?_); rintro e w5 ⟨rfl, l2, v5, hI5, h2, hb5'⟩; have hz5 := (hz4.mono hpdw).trans hb5')))
          | fail
        have HR5 : Hid (DfR pd ls m p D w [] q (.slice xa 0 xc) (.slice B2 q.length (yc - 1)) w5) := hidd (DfR.step HDD.out HBB.out HNN.out HSS.out hI5 (h2.trans (by rw [hbr]; exact HDCV.out)) HDC.out (by rw [HDL.out]; have := Tr.sz_kids (Tr.mk ky dy ey (.slice yga ksy.length ygc) ksy : Lt); simp only [Tr.szs] at *; omega) (HX.out.later hz5) (HYT.out.later hz5) hz5 (fun z hz => hz))
        clear hI5 h2 hz5 hb5' hz4 hok hin2 hin hbr HAD HCP HSC hz4' hz0
        go_wp2_with fail
        go_roundw
        case rel => exact ⟨[], q, HR5.out⟩
        case measure => simp [slLn]
    | cons x r =>
      cases ys with
      | nil =>
        simp only [List.length_cons, List.length_nil] at *
        obtain ⟨xb, xo, rfl, hxb, a0, a1, a2, a3, a4⟩ := sl_at5 hX.sl (i := 0) (by simp)
        simp only [Nat.zero_mul, Nat.add_zero, List.getElem_cons_zero] at a0 a1 a2 a3 a4
        have hXT := hX.tail
        obtain ⟨A2, hA2⟩ : ∃ A2, (if xc = 1 then some (⟨xb, xo, none⟩ : Addr) else some ⟨xb, xo + 5, none⟩) = A2 := ⟨_, rfl⟩
        rw [hA2] at hXT
        have HXT := hidd hXT
        have hxn := hX.nm x (List.mem_cons_self ..)
        have pc1 : (1 : Int) ≤ ((r.length + 1 : Nat) : Int) := by omega
        have pc1' : (1 : Int) ≤ (r.length : Int) + 1 := by omega
        have pc2 : r.length + 1 ≤ xc := by
          obtain ⟨_, _, he, _, h2, _⟩ := hX.sl
          simp only [Value.slice.injEq] at he
          simp only [List.length_cons] at h2 he
          omega
        have pc3 : ((r.length + 1 : Nat) : Int) ≤ (xc : Int) := by omega
        have r1 : ¬ (9223372036854775807 < p.size + 1) := by omega
        have r2 : ¬ (9223372036854775807 < p.size + 1 + x.1.size) := by omega
        clear hXT
        obtain ⟨Dc, hDc⟩ : ∃ Dc, [(⟨kDrop, sub p x.1, NdZ⟩ : Ch Unit)] = Dc := ⟨_, rfl⟩
        have HDC : Hid (diffK (diffT m) p (mapB (x :: r)) (mapB []) = Dc ++ diffK (diffT m) p (mapB r) (mapB [])) := hidd (by rw [← hDc]; exact diffK_left (diffT m) p (a := (x.1, x.2.bare)) (xs := mapB r) (ys := mapB []) (fun b ys' e => by cases e))
        have HDL : Hid (Dc.length = 1) := hidd (by rw [← hDc]; rfl)
        have HAD := hidd (add_any pd (ls ++ l) v kDrop (sub p x.1) zLt wr hI (by omega) (zLt_ok _) (zLt_in _))
        rw [zLt_bare, hDc] at HAD
        unfold sub kDrop zLt nval at HAD
        simp only [Tr.kind, Tr.data, Tr.exec, Tr.v] at HAD
        have HX := hidd hX
        have HY := hidd hY
        have HDD := hidd hD
        have HBB := hidd hB
        have HNN := hidd hn
        have HSS := hidd hs
        clear hDc hI hX hY hD hB hn hs
        go_wp2_with fail
        refine HAD.out.mono ?_
        rintro e w5 ⟨rfl, l2, v5, hI5, h2, hb5⟩
        have HR5 : Hid (DfR pd ls m p D w r [] (.slice A2 r.length (xc - 1)) (.slice ya 0 yc) w5) := hidd (DfR.step HDD.out HBB.out HNN.out HSS.out hI5 h2 HDC.out (by rw [HDL.out]; have := Tr.sz_kids x.2; obtain ⟨xn, xt⟩ := x; simp only [Tr.szs] at *; omega) (HXT.out.later hb5) (HY.out.later hb5) hb5 (fun z hz => List.mem_cons_of_mem _ hz))
        clear hI5 h2 hb5 a0 a1 a2 a3 a4 HAD
        go_wp2_with fail
        go_roundw
        case rel => exact ⟨r, [], HR5.out⟩
        case measure => simp [slLn]
      | cons y q =>
        simp only [List.length_cons] at *
        obtain ⟨xb, xo, rfl, hxb, a0, -, -, -, -⟩ := sl_at5 hX.sl (i := 0) (by simp)
        obtain ⟨yb, yo, rfl, hyb, g0, -, -, -, -⟩ := sl_at5 hY.sl (i := 0) (by simp)
        simp only [Nat.zero_mul, Nat.add_zero, List.getElem_cons_zero] at a0 g0
        obtain ⟨cv, hcv⟩ : ∃ c, cmpB x.1 y.1 = c := ⟨_, rfl⟩
        have HCM := hidd (fun W => Tryd.strings_Compare x.1 y.1 W)
        rw [show Lib.compareBytes x.1.data.toList y.1.data.toList = cv from hcv] at HCM
        have pc1 : (1 : Int) ≤ ((r.length + 1 : Nat) : Int) := by omega
        have qc1 : (1 : Int) ≤ ((q.length + 1 : Nat) : Int) := by omega
        have pc0 : (0 : Int) < ((r.length + 1 : Nat) : Int) := by omega
        have qc0 : (0 : Int) < ((q.length + 1 : Nat) : Int) := by omega
        have HX := hidd hX
        have HY := hidd hY
        have HI := hidd hI
        have HDD := hidd hD
        have HBB := hidd hB
        have HNN := hidd hn
        have HSS := hidd hs
        have HCV := hidd hcv
        clear hX hY hI hD hB hn hs hcv
        go_upto_region 2 with fail
        go_quiet ((go_at_call 43; exact Calls.quiet_of_same (HCM.out _)))
        obtain ⟨wq, hwq⟩ : ∃ W, wr.drewN nq = W := ⟨_, rfl⟩
        have hbq : Below wr.heap.size wr wq := by rw [← hwq]; exact Below.drewN _ _ _
        have hpdq : pd ≤ wr.heap.size := Nat.le_of_lt HI.out.b.lt
        have hI := HI.out.later hbq
        have hX := HX.out.later (hbq.mono hpdq)
        have hY := HY.out.later (hbq.mono hpdq)
        have hB := HBB.out.trans (hbq.mono hpdq)
        have hD := HDD.out
        have hn := HNN.out
        have hs := HSS.out
        rw [hwq]
        clear hwq hbq hpdq HI HX HY HBB HDD HNN HSS a0 g0 HCM pc1 pc0 qc1 qc0 hxb hyb
        by_cases h1 : cv < 0
        · have e1 : decide (cv < 0) = true := decide_eq_true h1
          have hc : cmpB x.1 y.1 < 0 := by rw [HCV.out]; exact h1
          clear h1
          obtain ⟨xb2, xo2, he, hxb, a0, a1, a2, a3, a4⟩ := sl_at5 hX.sl (i := 0) (by simp)
          simp only [Option.some.injEq, Addr.mk.injEq, and_true] at he
          obtain ⟨rfl, rfl⟩ := he
          simp only [Nat.zero_mul, Nat.add_zero, List.getElem_cons_zero] at a0 a1 a2 a3 a4
          have hXT := hX.tail
          obtain ⟨A2, hA2⟩ : ∃ A2, (if xc = 1 then some (⟨xb, xo, none⟩ : Addr) else some ⟨xb, xo + 5, none⟩) = A2 := ⟨_, rfl⟩
          rw [hA2] at hXT
          have HXT := hidd hXT
          have hxn := hX.nm x (List.mem_cons_self ..)
          have pc1 : (1 : Int) ≤ ((r.length + 1 : Nat) : Int) := by omega
          have pc1' : (1 : Int) ≤ (r.length : Int) + 1 := by omega
          have pc2 : r.length + 1 ≤ xc := by
            obtain ⟨_, _, he, _, h2, _⟩ := hX.sl
            simp only [Value.slice.injEq] at he
            simp only [List.length_cons] at h2 he
            omega
          have pc3 : ((r.length + 1 : Nat) : Int) ≤ (xc : Int) := by omega
          have r1 : ¬ (9223372036854775807 < p.size + 1) := by omega
          have r2 : ¬ (9223372036854775807 < p.size + 1 + x.1.size) := by omega
          clear hXT
          obtain ⟨Dc, hDc⟩ : ∃ Dc, [(⟨kDrop, sub p x.1, NdZ⟩ : Ch Unit)] = Dc := ⟨_, rfl⟩
          have HDC : Hid (diffK (diffT m) p (mapB (x :: r)) (mapB (y :: q)) = Dc ++ diffK (diffT m) p (mapB r) (mapB (y :: q))) := hidd (by rw [← hDc]; exact diffK_left (diffT m) p (a := (x.1, x.2.bare)) (xs := mapB r) (ys := mapB (y :: q)) (fun b ys' e => by obtain ⟨rfl, rfl⟩ := List.cons.inj e; exact hc))
          have HDL : Hid (Dc.length = 1) := hidd (by rw [← hDc]; rfl)
          have HAD := hidd (add_any pd (ls ++ l) v kDrop (sub p x.1) zLt wq hI (by omega) (zLt_ok _) (zLt_in _))
          rw [zLt_bare, hDc] at HAD
          unfold sub kDrop zLt nval at HAD
          simp only [Tr.kind, Tr.data, Tr.exec, Tr.v] at HAD
          have HX := hidd hX
          have HY := hidd hY
          have HDD := hidd hD
          have HBB := hidd hB
          have HNN := hidd hn
          have HSS := hidd hs
          clear hDc hI hX hY hD hB hn hs
          go_wp2_with fail
          refine HAD.out.mono ?_
          rintro e w5 ⟨rfl, l2, v5, hI5, h2, hb5⟩
          have HR5 : Hid (DfR pd ls m p D w r (y :: q) (.slice A2 r.length (xc - 1)) (.slice (some ⟨yb, yo, none⟩) (q.length + 1) yc) w5) := hidd (DfR.step HDD.out HBB.out HNN.out HSS.out hI5 h2 HDC.out (by rw [HDL.out]; have := Tr.sz_kids x.2; obtain ⟨xn, xt⟩ := x; simp only [Tr.szs] at *; omega) (HXT.out.later hb5) (HY.out.later hb5) hb5 (fun z hz => List.mem_cons_of_mem _ hz))
          clear hI5 h2 hb5 a0 a1 a2 a3 a4 HAD
          go_wp2_with fail
          go_roundw
          case rel => exact ⟨r, (y :: q), HR5.out⟩
          case measure => simp [slLn]
        · by_cases h2 : 0 < cv
          · have e1 : decide (cv < 0) = false := decide_eq_false h1
            have e2 : decide (0 < cv) = true := decide_eq_true h2
            have hc : 0 < cmpB x.1 y.1 := by rw [HCV.out]; exact h2
            clear h1 h2
            obtain ⟨yb2, yo2, he, hyb, g0, g1, g2, g3, g4⟩ := sl_at5 hY.sl (i := 0) (by simp)
            simp only [Option.some.injEq, Addr.mk.injEq, and_true] at he
            obtain ⟨rfl, rfl⟩ := he
            simp only [Nat.zero_mul, Nat.add_zero, List.getElem_cons_zero] at g0 g1 g2 g3 g4
            have hYT := hY.tail
            obtain ⟨B2, hB2⟩ : ∃ B2, (if yc = 1 then some (⟨yb, yo, none⟩ : Addr) else some ⟨yb, yo + 5, none⟩) = B2 := ⟨_, rfl⟩
            rw [hB2] at hYT
            have HYT := hidd hYT
            have hyn := hY.nm y (List.mem_cons_self ..)
            have qc1 : (1 : Int) ≤ ((q.length + 1 : Nat) : Int) := by omega
            have qc1' : (1 : Int) ≤ (q.length : Int) + 1 := by omega
            have qc2 : q.length + 1 ≤ yc := by
              obtain ⟨_, _, he, _, h2, _⟩ := hY.sl
              simp only [Value.slice.injEq] at he
              simp only [List.length_cons] at h2 he
              omega
            have qc3 : ((q.length + 1 : Nat) : Int) ≤ (yc : Int) := by omega
            have s1 : ¬ (9223372036854775807 < p.size + 1) := by omega
            have s2 : ¬ (9223372036854775807 < p.size + 1 + y.1.size) := by omega
            clear hYT
            obtain ⟨yn, yt⟩ := y
            have hyo := hY.ok _ (List.mem_cons_self ..)
            have hysz := right_sz (hY.e0 _ (List.mem_cons_self ..))
            simp only at hyo hysz hyn s2 g0 g1 g2 g3 g4
            obtain ⟨Dc, hDc⟩ : ∃ Dc, [(⟨kAdd, sub p yn, yt.bare⟩ : Ch Unit)] = Dc := ⟨_, rfl⟩
            have HDC : Hid (diffK (diffT m) p (mapB (x :: r)) (mapB ((yn, yt) :: q)) = Dc ++ diffK (diffT m) p (mapB (x :: r)) (mapB q)) := hidd (by rw [← hDc]; exact diffK_right (diffT m) p (b := (yn, yt.bare)) (xs := mapB (x :: r)) (ys := mapB q) (fun b ys' e => by obtain ⟨rfl, rfl⟩ := List.cons.inj e; exact hc))
            have HDL : Hid (Dc.length = 1) := hidd (by rw [← hDc]; rfl)
            obtain ⟨yga, ygc, hyv⟩ := hyo.shape
            have HCP := hidd (fun W (h : Below wq.heap.size wq W) => copy_any 300 yt W (by omega) (Nat.le_refl _) (hyo.ob h))
            have HAD := hidd (fun W (n : Lt) (h : Below wq.heap.size wq W) (hn' : n.Ok W) (hni : n.In (fun b => b < W.heap.size ∧ wq.heap.size ≤ b)) => add_any pd (ls ++ l) v kAdd (sub p yn) n W (hI.later h) (by omega) hn' (in_mono (fun b hb => ⟨hb.1, by have := hI.b.lt; omega, fun e => by have := (hI.ow.blk b e).2; omega⟩) n hni))
            unfold sub kAdd at HAD
            simp only [nval, Tr.kind, Tr.data, Tr.exec, Tr.v] at HAD
            obtain ⟨ky, dy, ey, vy, ksy⟩ := yt
            simp only [Tr.v, Tr.kids, Tr.kind, Tr.data, Tr.exec] at hyv g1 g2 g3 g4
            subst hyv
            simp only [nval, Tr.kind, Tr.data, Tr.exec, Tr.v] at HCP
            have hz0 : Below wq.heap.size wq wq.drew := (Below.refl _ _).drew
            have hybp : yb < pd := hY.blk (by simp) yb rfl
            have hpdw : pd ≤ wq.heap.size := Nat.le_of_lt hI.b.lt
            have HSC : Hid (∀ W, Below pd wq W → W.cell? ⟨yb, yo, none⟩ = some (.string yn) ∧ W.cell? ⟨yb, yo + 1, none⟩ = some (.string ky) ∧ W.cell? ⟨yb, yo + 2, none⟩ = some (.string dy) ∧ W.cell? ⟨yb, yo + 3, none⟩ = some (.bool ey) ∧ W.cell? ⟨yb, yo + 4, none⟩ = some (.slice yga ksy.length ygc)) := hidd (fun W h =>
              ⟨(h.cell (p := ⟨yb, _, none⟩) hybp).trans g0, (h.cell (p := ⟨yb, _, none⟩) hybp).trans g1, (h.cell (p := ⟨yb, _, none⟩) hybp).trans g2, (h.cell (p := ⟨yb, _, none⟩) hybp).trans g3, (h.cell (p := ⟨yb, _, none⟩) hybp).trans g4⟩)
            have HX := hidd hX
            have HY := hidd hY
            have HI := hidd hI
            have HDD := hidd hD
            have HBB := hidd hB
            have HNN := hidd hn
            have HSS := hidd hs
            have HDCV := hidd hDc
            clear hDc hI hX hY hD hB hn hs hyo g0 g1 g2 g3 g4
            go_upto_region 13 with fail
            first
              | (go_region_held3 (fun W => W.cell? ⟨yb, yo, none⟩ = some (.string yn) ∧ W.cell? ⟨yb, yo + 1, none⟩ = some (.string ky) ∧ W.cell? ⟨yb, yo + 2, none⟩ = some (.string dy) ∧ W.cell? ⟨yb, yo + 3, none⟩ = some (.bool ey) ∧ W.cell? ⟨yb, yo + 4, none⟩ = some (.slice yga ksy.length ygc))
                  (first | exact HSC.out _ (hz0.mono hpdw) | exact HSC.out _ (hz4.mono hpdw) | exact HSC.out _ hz5)
                  (first
                    | (go_at_call 20; (with_reducible refine (HCP.out _ hz0).mono ?_); rintro e w4 ⟨na, nc, ksn, rfl, hbr, hok, hin, hz4'⟩; have hz4 := hz0.trans (hz4'.mono (Nat.le_refl _)); have hin2 := in_mono (G := fun b => b < w4.heap.size ∧ wq.heap.size ≤ b) (fun b hb => ⟨hb.2, hb.1⟩) _ hin; simp only [Tr.kind, Tr.data, Tr.exec] at hbr hok hin2 ⊢)
                    | (go_at_call 31; (with_reducible refine (HAD.out _ (.mk ky dy ey (.slice na ksn.length nc) ksn) hz4 hok hin2).mono ?_); rintro e w5 ⟨rfl, l2, v5, hI5, h2, hb5'⟩; have hz5 := (hz4.mono hpdw).trans hb5')))
              | fail
            have HR5 : Hid (DfR pd ls m p D w (x :: r) q (.slice (some ⟨xb, xo, none⟩) (r.length + 1) xc) (.slice B2 q.length (yc - 1)) w5) := hidd (DfR.step HDD.out HBB.out HNN.out HSS.out hI5 (h2.trans (by rw [hbr]; exact HDCV.out)) HDC.out (by rw [HDL.out]; have := Tr.sz_kids (Tr.mk ky dy ey (.slice yga ksy.length ygc) ksy : Lt); simp only [Tr.szs] at *; omega) (HX.out.later hz5) (HYT.out.later hz5) hz5 (fun z hz => hz))
            clear hI5 h2 hz5 hb5' hz4 hok hin2 hin hbr HAD HCP HSC hz4' hz0
            go_wp2_with fail
            go_roundw
            case rel => exact ⟨(x :: r), q, HR5.out⟩
            case measure => simp [slLn]
          · have e1 : decide (cv < 0) = false := decide_eq_false h1
            have e2 : decide (0 < cv) = false := decide_eq_false h2
            have hc : cmpB x.1 y.1 = 0 := by rw [HCV.out]; omega
            clear h1 h2
            obtain ⟨xb2, xo2, he, hxb, a0, a1, a2, a3, a4⟩ := sl_at5 hX.sl (i := 0) (by simp)
            simp only [Option.some.injEq, Addr.mk.injEq, and_true] at he
            obtain ⟨rfl, rfl⟩ := he
            simp only [Nat.zero_mul, Nat.add_zero, List.getElem_cons_zero] at a0 a1 a2 a3 a4
            have hXT := hX.tail
            obtain ⟨A2, hA2⟩ : ∃ A2, (if xc = 1 then some (⟨xb, xo, none⟩ : Addr) else some ⟨xb, xo + 5, none⟩) = A2 := ⟨_, rfl⟩
            rw [hA2] at hXT
            have HXT := hidd hXT
            have hxn := hX.nm x (List.mem_cons_self ..)
            have pc1 : (1 : Int) ≤ ((r.length + 1 : Nat) : Int) := by omega
            have pc1' : (1 : Int) ≤ (r.length : Int) + 1 := by omega
            have pc2 : r.length + 1 ≤ xc := by
              obtain ⟨_, _, he, _, h2, _⟩ := hX.sl
              simp only [Value.slice.injEq] at he
              simp only [List.length_cons] at h2 he
              omega
            have pc3 : ((r.length + 1 : Nat) : Int) ≤ (xc : Int) := by omega
            have r1 : ¬ (9223372036854775807 < p.size + 1) := by omega
            have r2 : ¬ (9223372036854775807 < p.size + 1 + x.1.size) := by omega
            clear hXT
            obtain ⟨yb2, yo2, he, hyb, g0, g1, g2, g3, g4⟩ := sl_at5 hY.sl (i := 0) (by simp)
            simp only [Option.some.injEq, Addr.mk.injEq, and_true] at he
            obtain ⟨rfl, rfl⟩ := he
            simp only [Nat.zero_mul, Nat.add_zero, List.getElem_cons_zero] at g0 g1 g2 g3 g4
            have hYT := hY.tail
            obtain ⟨B2, hB2⟩ : ∃ B2, (if yc = 1 then some (⟨yb, yo, none⟩ : Addr) else some ⟨yb, yo + 5, none⟩) = B2 := ⟨_, rfl⟩
            rw [hB2] at hYT
            have HYT := hidd hYT
            have hyn := hY.nm y (List.mem_cons_self ..)
            have qc1 : (1 : Int) ≤ ((q.length + 1 : Nat) : Int) := by omega
            have qc1' : (1 : Int) ≤ (q.length : Int) + 1 := by omega
            have qc2 : q.length + 1 ≤ yc := by
              obtain ⟨_, _, he, _, h2, _⟩ := hY.sl
              simp only [Value.slice.injEq] at he
              simp only [List.length_cons] at h2 he
              omega
            have qc3 : ((q.length + 1 : Nat) : Int) ≤ (yc : Int) := by omega
            have s1 : ¬ (9223372036854775807 < p.size + 1) := by omega
            have s2 : ¬ (9223372036854775807 < p.size + 1 + y.1.size) := by omega
            clear hYT
            obtain ⟨xn, xt⟩ := x
            obtain ⟨yn, yt⟩ := y
            have hxo := hX.ok _ (List.mem_cons_self ..)
            have hyo := hY.ok _ (List.mem_cons_self ..)
            have hsz := hs _ (List.mem_cons_self ..)
            have hnn := hn
            simp only [Tr.szs] at hnn
            have hpdw : pd ≤ wq.heap.size := Nat.le_of_lt hI.b.lt
            simp only at hxo hyo hsz hxn hyn r2 s2 g0 g1 g2 g3 g4 a0 a1 a2 a3 a4 hc
            obtain ⟨Dc, hDc⟩ : ∃ Dc, diffT m xt.bare yt.bare (sub p xn) = Dc := ⟨_, rfl⟩
            have HDC : Hid (diffK (diffT m) p (mapB ((xn, xt) :: r)) (mapB ((yn, yt) :: q)) = Dc ++ diffK (diffT m) p (mapB r) (mapB q)) := hidd (by rw [← hDc]; exact diffK_both (diffT m) p (a := (xn, xt.bare)) (b := (yn, yt.bare)) (xs := mapB r) (ys := mapB q) hc)
            have HDL : Hid (Dc.length + Tr.szs r + Tr.szs q ≤ Tr.szs ((xn, xt) :: r) + Tr.szs ((yn, yt) :: q)) := hidd (by rw [← hDc]; have := diffT_len m xt.bare yt.bare (sub p xn); rw [sz_bare, sz_bare] at this; simp only [Tr.szs]; omega)
            have hsub : (sub p xn).size = p.size + 1 + xn.size := by unfold sub; rw [ByteArray.size_append, ByteArray.size_append]; rfl
            have HND := hidd (fun W (h : Below wq.heap.size wq W) => HNH.out pd (ls ++ l) v xt yt (sub p xn) W hsz (hX.e0 _ (List.mem_cons_self ..)) (hY.e0 _ (List.mem_cons_self ..)) (hxo.ob h) (hyo.ob h) (hX.inn _ (List.mem_cons_self ..)) (hY.inn _ (List.mem_cons_self ..)) (hI.later h) (by omega) (by rw [hsub]; omega))
            rw [hDc] at HND
            unfold sub at HND
            obtain ⟨xga, xgc, hxv⟩ := hxo.shape
            obtain ⟨yga, ygc, hyv⟩ := hyo.shape
            obtain ⟨kx, dx, ex, vx, ksx⟩ := xt
            obtain ⟨ky, dy, ey, vy, ksy⟩ := yt
            simp only [Tr.v, Tr.kids, Tr.kind, Tr.data, Tr.exec] at hxv hyv g1 g2 g3 g4 a1 a2 a3 a4
            subst hxv hyv
            simp only [nval, Tr.kind, Tr.data, Tr.exec, Tr.v] at HND
            have hz0 : Below wq.heap.size wq wq.drew := (Below.refl _ _).drew
            have hxbp : xb < pd := hX.blk (by simp) xb rfl
            have hybp : yb < pd := hY.blk (by simp) yb rfl
            have HSC : Hid (∀ W, Below pd wq W → W.cell? ⟨xb, xo, none⟩ = some (.string xn) ∧ W.cell? ⟨xb, xo + 1, none⟩ = some (.string kx) ∧ W.cell? ⟨xb, xo + 2, none⟩ = some (.string dx) ∧ W.cell? ⟨xb, xo + 3, none⟩ = some (.bool ex) ∧ W.cell? ⟨xb, xo + 4, none⟩ = some (.slice xga ksx.length xgc) ∧
                    W.cell? ⟨yb, yo + 1, none⟩ = some (.string ky) ∧ W.cell? ⟨yb, yo + 2, none⟩ = some (.string dy) ∧ W.cell? ⟨yb, yo + 3, none⟩ = some (.bool ey) ∧ W.cell? ⟨yb, yo + 4, none⟩ = some (.slice yga ksy.length ygc)) := hidd (fun W h =>
              ⟨(h.cell (p := ⟨xb, _, none⟩) hxbp).trans a0, (h.cell (p := ⟨xb, _, none⟩) hxbp).trans a1, (h.cell (p := ⟨xb, _, none⟩) hxbp).trans a2, (h.cell (p := ⟨xb, _, none⟩) hxbp).trans a3, (h.cell (p := ⟨xb, _, none⟩) hxbp).trans a4,
               (h.cell (p := ⟨yb, _, none⟩) hybp).trans g1, (h.cell (p := ⟨yb, _, none⟩) hybp).trans g2, (h.cell (p := ⟨yb, _, none⟩) hybp).trans g3, (h.cell (p := ⟨yb, _, none⟩) hybp).trans g4⟩)
            have HX := hidd hX
            have HY := hidd hY
            have HI := hidd hI
            have HDD := hidd hD
            have HBB := hidd hB
            have HNN := hidd hn
            have HSS := hidd hs
            clear hDc hI hX hY hD hB hn hs hxo hyo hsz hnn hsub hxb hyb hc HCV a0 a1 a2 a3 a4 g0 g1 g2 g3 g4
            go_upto_region 7 with fail
            first
              | (go_region_held3 (fun W => W.cell? ⟨xb, xo, none⟩ = some (.string xn) ∧ W.cell? ⟨xb, xo + 1, none⟩ = some (.string kx) ∧ W.cell? ⟨xb, xo + 2, none⟩ = some (.string dx) ∧ W.cell? ⟨xb, xo + 3, none⟩ = some (.bool ex) ∧ W.cell? ⟨xb, xo + 4, none⟩ = some (.slice xga ksx.length xgc) ∧
                    W.cell? ⟨yb, yo + 1, none⟩ = some (.string ky) ∧ W.cell? ⟨yb, yo + 2, none⟩ = some (.string dy) ∧ W.cell? ⟨yb, yo + 3, none⟩ = some (.bool ey) ∧ W.cell? ⟨yb, yo + 4, none⟩ = some (.slice yga ksy.length ygc))
                  (first | exact HSC.out _ (hz0.mono hpdw) | exact HSC.out _ hz5)
                  (first | (go_at_call 19; (with_reducible refine (HND.out _ hz0).mono ?_); rintro e w5 ⟨rfl, l2, v5, hI5, h2, hb5'⟩; have hz5 := (hz0.mono hpdw).trans hb5')))
              | fail
            have HR5 : Hid (DfR pd ls m p D w r q (.slice A2 r.length (xc - 1)) (.slice B2 q.length (yc - 1)) w5) := hidd (DfR.step HDD.out HBB.out HNN.out HSS.out hI5 h2 HDC.out HDL.out (HXT.out.later hz5) (HYT.out.later hz5) hz5 (fun z hz => List.mem_cons_of_mem _ hz))
            clear hI5 h2 hb5' HSC HND hz0 hz5
            go_upto_region 8 with fail
            go_quiet (fail)
            have HR6 : Hid (DfR pd ls m p D w r q (.slice A2 r.length (xc - 1)) (.slice B2 q.length (yc - 1)) (w5.drewN nq)) := hidd (HR5.out.drewN _)
            go_wp2_with fail
            go_roundw
            case rel => exact ⟨r, q, HR6.out⟩
            case measure => simp [slLn]; omega
end Go.Proofs.YtoaedkinlnkkhaaDoor

namespace Go.Proofs.YtoaedkinlnkkhaaDoor
open Go.RowKit Go.Shelf

theorem KsI.of {pd : Nat} {t : Lt} {w : World} (ht : t.Ok w) (hi : t.In (fun i => i < pd)) (h0 : treeE t = 0) : KsI pd t.kids t.v w := by
  obtain ⟨k, d, e, v, ks⟩ := t
  have hi' := hi
  rw [Tr.In] at hi'
  exact ⟨ht.sl, fun hn b hb => hi'.1 hn b hb, fun x hx => ht.kid hx, inS_iff.1 hi'.2, fun x hx => kid_right h0 hx, fun x hx => isName_size (own_names (treeE_own h0).1 x hx)⟩
theorem evc_some {E : Nat → Addr} {c : Nat} (h : c ≠ 0) : ∃ ad, evc E c = .iface 178 (.pointer (some ad)) := ⟨_, evc_ne h⟩
theorem two_belowB (w : World) {B : Nat} (h : B ≤ w.heap.size) (x y : Array Value) (T : TypeId) : Below B w ((w.alloc (.cells x T)).alloc (.cells y T)) := ((Below.refl _ _).alloc h _).alloc (by simp; omega) _

set_option maxRecDepth 100000 in
set_option maxHeartbeats 40000000 in
theorem nodes_step (m : Nat) (hN : NodesH m) : NodesH (m + 1) := by
  intro pd ls v a b p w hm ha0 hb0 ha hb hai hbi hI hn hp
  obtain ⟨aa, ac, hav⟩ := ha.shape
  obtain ⟨ba, bc, hbv⟩ := hb.shape
  have hpw : pd < w.heap.size := hI.b.lt
  obtain ⟨D, hD⟩ : ∃ D, diffT (m + 1) a.bare b.bare p = D := ⟨_, rfl⟩
  rw [hD]
  have hsa := Tr.sz_kids a
  have hsb := Tr.sz_kids b
  have hKD : a.bare ≠ b.bare → a.kind = kDir → b.kind = kDir → diffK (diffT m) p (mapB a.kids) (mapB b.kids) = D := fun h h1 h2 => by
    rw [← hD, diffT_dirs h (by rw [← h1]; exact Tr.kind_map _ a) (by rw [← h2]; exact Tr.kind_map _ b)]
    rw [show a.bare.kids = mapB a.kids from Tr.kids_map _ a, show b.bare.kids = mapB b.kids from Tr.kids_map _ b]
  have hED : a.bare ≠ b.bare → ¬ (a.kind = kDir ∧ b.kind = kDir) → [⟨kEdit, pathOf p, b.bare⟩] = D := fun h h1 => by
    rw [← hD, diffT_edit h (by rw [show a.bare.kind = a.kind from Tr.kind_map _ a, show b.bare.kind = b.kind from Tr.kind_map _ b]; exact h1)]
  have hSD : a.bare = b.bare → D = [] := fun h => by rw [← hD, h, diffT_same]
  clear hD
  have hB2 := two_belowB w (Nat.le_of_lt hpw) #[.string a.kind, .string a.data, .bool a.exec, a.v] #[.string b.kind, .string b.data, .bool b.exec, b.v] 24
  have hB2w : Below w.heap.size w ((w.alloc (.cells #[.string a.kind, .string a.data, .bool a.exec, a.v] 24)).alloc (.cells #[.string b.kind, .string b.data, .bool b.exec, b.v] 24)) := two_belowB w (Nat.le_refl _) _ _ _
  have hq1 := (Blk.new w [.string a.kind, .string a.data, .bool a.exec, a.v] 24).alloc (.cells #[.string b.kind, .string b.data, .bool b.exec, b.v] 24)
  have hq2 := Blk.new (w.alloc (.cells #[.string a.kind, .string a.data, .bool a.exec, a.v] 24)) [.string b.kind, .string b.data, .bool b.exec, b.v] 24
  rw [show (w.alloc (.cells #[.string a.kind, .string a.data, .bool a.exec, a.v] 24)).heap.size = w.heap.size + 1 by simp] at hq2
  have ha2 := ha.ob hB2w
  have hb2 := hb.ob hB2w
  have hI2 := hI.later hB2w
  have hszl := Tr.sz_kids a
  obtain ⟨ka, da, ea, va, ksa⟩ := a
  obtain ⟨kb, db, eb, vb, ksb⟩ := b
  simp only [Tr.v, Tr.kids] at hav hbv
  subst hav hbv
  unfold nval
  simp only [Tr.kind, Tr.data, Tr.exec, Tr.v, Tr.kids] at *
  have HPW := hidd hpw
  by_cases hs : (Tr.mk ka da ea (.slice aa ksa.length ac) ksa : Lt).bare = (Tr.mk kb db eb (.slice ba ksb.length bc) ksb : Lt).bare
  · have HS := hidd (same_any _ _ _ true ha2 hb2 ⟨fun _ => hs, fun _ => rfl⟩)
    have HD0 := hidd (hSD hs)
    have HI2 := hidd hI2
    have HB2 := hidd hB2
    simp only [nval, Tr.kind, Tr.data, Tr.exec, Tr.v] at HS
    clear hKD hED hSD hs ha2 hb2 hI2 hB2w hB2 ha hb hI hai hbi hq1 hq2
    go_enter Tryd.func19, Tryd.ntmps19
    go_wp2_with fail
    refine HS.out.mono ?_
    rintro e w3 ⟨rfl, hb3⟩
    have HF : Hid (AddP pd ls D w (.returned (.tuple #[])) w3) := hidd ⟨rfl, [], v, by rw [List.append_nil]; exact HI2.out.later hb3, by rw [HD0.out]; rfl, HB2.out.trans (hb3.mono (Nat.le_trans (Nat.le_of_lt HPW.out) HB2.out.size))⟩
    clear hb3
    go_wp2_with fail
    go_end0
    exact HF.out
  · have HS := hidd (same_any _ _ _ false ha2 hb2 ⟨fun h => (by cases h), fun h => absurd h hs⟩)
    have HDX := hidd (hKD hs)
    have HDY := hidd (hED hs)
    simp only [nval, Tr.kind, Tr.data, Tr.exec, Tr.v] at HS
    clear hKD hED hSD hs
    have hz2 := hB2w.size
    have HI2 := hidd hI2
    have HB2 := hidd hB2
    have HB2W := hidd hB2w
    by_cases hdd : ka = kDir ∧ kb = kDir
    · obtain ⟨rfl, rfl⟩ := hdd
      have e1 : (kDir.toList == [100, 105, 114]) = true := by rw [kDir_list]; rfl
      have HKK := hidd (fun W (hbW : Below w.heap.size w W) => kids_step m hN pd ls v ksa ksb _ _ p W (hI.later hbW) ((KsI.of ha hai ha0).later (hbW.mono (Nat.le_of_lt hpw))) ((KsI.of hb hbi hb0).later (hbW.mono (Nat.le_of_lt hpw))) (by omega) (fun x hx => by have := Tr.szs_mem hx; omega) (by omega))
      simp only [Tr.v] at HKK
      rw [HDX.out rfl rfl] at HKK
      clear ha2 hb2 hI2 hB2 ha hb hI hai hbi hN ha0 hb0 hB2w HDX HDY
      go_enter Tryd.func19, Tryd.ntmps19
      go_wp2_with fail
      refine HS.out.mono ?_
      rintro e w3 ⟨rfl, hb3⟩
      have hbw3 := HB2W.out.trans (hb3.mono hz2)
      have HC := hidd (HKK.out w3 hbw3)
      have HB3 := hidd hbw3
      have hk1 := hq1.below hb3 hq1.lt
      have hk2 := hq2.below hb3 hq2.lt
      have c0 := hk1.cell (i := 0) rfl
      have c1 := hk1.cell (i := 3) rfl
      have d0 := hk2.cell (i := 0) rfl
      have d1 := hk2.cell (i := 3) rfl
      clear hb3 hbw3 hk1 hk2 hq1 hq2 hz2
      go_wp2_with fail
      refine HC.out.mono ?_
      rintro e w4 ⟨rfl, ls', v', h4, hl4, hb4⟩
      have HF : Hid (AddP pd ls D w (.returned (.tuple #[])) w4) := hidd ⟨rfl, ls', v', h4, hl4, (HB3.out.mono (Nat.le_of_lt HPW.out)).trans hb4⟩
      clear h4 hl4 hb4 c0 c1 d0 d1
      go_wp2_with fail
      go_end0
      exact HF.out
    · have HDY' := hidd (HDY.out hdd)
      have hmx : ∀ (w : World) (ts : Array TypeId) (t : TypeId), (Builtin.max_ ts t #[.string p, .string ⟨#[47]⟩]).run Tryd.prog w = .ok (.string (pathOf p)) w := fun w ts t => Lib.run_max_strs w ts t _ _
      have hbsz := right_sz hb0
      have HCP := hidd (fun W (hbW : Below w.heap.size w W) => copy_any 300 _ W (by omega) (Nat.le_refl _) (hb.ob hbW))
      have HAD := hidd (fun W (n : Lt) (hbW : Below w.heap.size w W) (hn' : n.Ok W) (hni : n.In (fun b => b < W.heap.size ∧ w.heap.size ≤ b)) => add_any pd ls v kEdit (pathOf p) n W (hI.later hbW) (by omega) hn' (in_mono (fun b hb => ⟨hb.1, by omega, fun e => by have := (hI.ow.blk b e).2; omega⟩) n hni))
      obtain ⟨Dc, hDc⟩ : ∃ d, [(⟨kEdit, pathOf p, (Tr.mk kb db eb (.slice ba ksb.length bc) ksb : Lt).bare⟩ : Ch Unit)] = d := ⟨_, rfl⟩
      have HDC := hidd hDc
      rw [hDc] at HDY'
      clear hDc
      simp only [nval, Tr.kind, Tr.data, Tr.exec, Tr.v] at HCP HAD
      unfold kEdit at HAD
      obtain ⟨pt, hpt⟩ : ∃ t, pathOf p = t := ⟨_, rfl⟩
      rw [hpt] at hmx HAD
      have HPT := hidd hpt
      clear ha2 hb2 hI2 hB2 ha hb hI hai hbi hN ha0 hb0 hB2w HDX HDY hpt hbsz
      by_cases hka : ka = kDir
      · have e1 : (ka.toList == [100, 105, 114]) = true := by rw [hka, kDir_list]; rfl
        have e2 : (kb.toList == [100, 105, 114]) = false := by rw [← kDir_list]; exact beq_str (fun h => hdd ⟨hka, h⟩)
        clear hdd hka
        go_enter Tryd.func19, Tryd.ntmps19
        go_wp2_with fail
        refine HS.out.mono ?_
        rintro e w3 ⟨rfl, hb3⟩
        have hbw3 := HB2W.out.trans (hb3.mono hz2)
        have HC := hidd (HCP.out w3 hbw3)
        have HB3 := hidd hbw3
        have hk1 := hq1.below hb3 hq1.lt
        have hk2 := hq2.below hb3 hq2.lt
        have c0 := hk1.cell (i := 0) rfl
        have d0 := hk2.cell (i := 0) rfl
        have d1 := hk2.cell (i := 1) rfl
        have d2 := hk2.cell (i := 2) rfl
        have d3 := hk2.cell (i := 3) rfl
        clear hb3 hbw3 hk1 hk2 hq1 hq2 hz2
        go_wp2_with fail
        refine HC.out.mono ?_
        rintro e w4 ⟨na, nc, ksn, rfl, hbr, hok, hin, hb4⟩
        simp only [Tr.kind, Tr.data, Tr.exec] at hbr hok hin ⊢
        have hb4w := HB3.out.trans (hb4.mono HB3.out.size)
        have hsz3 := HB3.out.size
        have HC2 := hidd (HAD.out w4 (.mk kb db eb (.slice na ksn.length nc) ksn) hb4w hok (in_mono (fun b hb => ⟨hb.2, by omega⟩) _ hin))
        rw [hbr] at HC2
        have HB4 := hidd hb4w
        clear c0 d0 d1 d2 d3 hb4 hb4w hok hin hbr hsz3
        go_wp2_with fail
        refine HC2.out.mono ?_
        rintro e w5 ⟨rfl, ls', v', h5, hl5, hb5⟩
        have HF : Hid (AddP pd ls D w (.returned (.tuple #[])) w5) := hidd ⟨rfl, ls', v', h5, by rw [hl5, ← HDY'.out, ← HDC.out, HPT.out]; rfl, (HB4.out.mono (Nat.le_of_lt HPW.out)).trans hb5⟩
        clear h5 hl5 hb5
        go_wp2_with fail
        go_end0
        exact HF.out
      · have e1 : (ka.toList == [100, 105, 114]) = false := by rw [← kDir_list]; exact beq_str hka
        clear hdd hka
        go_enter Tryd.func19, Tryd.ntmps19
        go_wp2_with fail
        refine HS.out.mono ?_
        rintro e w3 ⟨rfl, hb3⟩
        have hbw3 := HB2W.out.trans (hb3.mono hz2)
        have HC := hidd (HCP.out w3 hbw3)
        have HB3 := hidd hbw3
        have hk1 := hq1.below hb3 hq1.lt
        have hk2 := hq2.below hb3 hq2.lt
        have c0 := hk1.cell (i := 0) rfl
        have d0 := hk2.cell (i := 0) rfl
        have d1 := hk2.cell (i := 1) rfl
        have d2 := hk2.cell (i := 2) rfl
        have d3 := hk2.cell (i := 3) rfl
        clear hb3 hbw3 hk1 hk2 hq1 hq2 hz2
        go_wp2_with fail
        refine HC.out.mono ?_
        rintro e w4 ⟨na, nc, ksn, rfl, hbr, hok, hin, hb4⟩
        simp only [Tr.kind, Tr.data, Tr.exec] at hbr hok hin ⊢
        have hb4w := HB3.out.trans (hb4.mono HB3.out.size)
        have hsz3 := HB3.out.size
        have HC2 := hidd (HAD.out w4 (.mk kb db eb (.slice na ksn.length nc) ksn) hb4w hok (in_mono (fun b hb => ⟨hb.2, by omega⟩) _ hin))
        rw [hbr] at HC2
        have HB4 := hidd hb4w
        clear c0 d0 d1 d2 d3 hb4 hb4w hok hin hbr hsz3
        go_wp2_with fail
        refine HC2.out.mono ?_
        rintro e w5 ⟨rfl, ls', v', h5, hl5, hb5⟩
        have HF : Hid (AddP pd ls D w (.returned (.tuple #[])) w5) := hidd ⟨rfl, ls', v', h5, by rw [hl5, ← HDY'.out, ← HDC.out, HPT.out]; rfl, (HB4.out.mono (Nat.le_of_lt HPW.out)).trans hb5⟩
        clear h5 hl5 hb5
        go_wp2_with fail
        go_end0
        exact HF.out
theorem nodes_h : ∀ m, NodesH m
  | 0 => fun _ _ _ a _ _ _ hm => by have := Tr.sz_kids a; omega
  | m + 1 => nodes_step m (nodes_h m)

/-- What two trees differ in. -/
noncomputable def diffOf (a b : Nd) : List (Ch Unit) := diffT 200 a b ⟨#[]⟩
/-- A list of changes that lies there. -/
structure ChI (ls : List (Ch Value)) (v : Value) (W : World) : Prop where
  sl : Sl W v (chcells ls) ls.length 6
  ok : ∀ c ∈ ls, c.n.Ok W
theorem ChI.ob {ls : List (Ch Value)} {v : Value} {W W' : World} (h : ChI ls v W) (hb : Below W.heap.size W W') : ChI ls v W' := ⟨h.sl.ob hb (Nat.le_refl _), fun c hc => (h.ok c hc).ob hb⟩
/-- What diff.Diff gives. -/
def DiffP (E : Nat → Addr) (a b : Nd) (w : World) (e : Ending) (w' : World) : Prop :=
  Below w.heap.size w w' ∧ ((∃ c, (c = treeE a ∨ treeE a = 0 ∧ c = treeE b) ∧ c ≠ 0 ∧ c ≤ 10 ∧ e = .returned (.tuple #[.slice none 0 0, evc E c])) ∨
    (∃ (ls : List (Ch Value)) (v : Value), treeE a = 0 ∧ treeE b = 0 ∧ e = .returned (.tuple #[v, .nilIface]) ∧ ls.map Ch.bare = diffOf a b ∧ ChI ls v w'))

set_option maxRecDepth 100000 in
set_option maxHeartbeats 40000000 in
theorem diff_any (E : Nat → Addr) (B : Nat) (a b : Lt) (w : World) (ha : a.Ok w) (hb : b.Ok w) (hE : Env trGs B w E) :
    Calls Tryd.prog 9 #[nval a, nval b] w (DiffP E a.bare b.bare w) := by
  obtain ⟨aa, ac, hav⟩ := ha.shape
  obtain ⟨ba, bc, hbv⟩ := hb.shape
  have hB2 := two_below w #[.string a.kind, .string a.data, .bool a.exec, a.v] #[.string b.kind, .string b.data, .bool b.exec, b.v] 24
  have hq1 := (Blk.new w [.string a.kind, .string a.data, .bool a.exec, a.v] 24).alloc (.cells #[.string b.kind, .string b.data, .bool b.exec, b.v] 24)
  have hq2 := Blk.new (w.alloc (.cells #[.string a.kind, .string a.data, .bool a.exec, a.v] 24)) [.string b.kind, .string b.data, .bool b.exec, b.v] 24
  rw [show (w.alloc (.cells #[.string a.kind, .string a.data, .bool a.exec, a.v] 24)).heap.size = w.heap.size + 1 by simp] at hq2
  have hba : treeE a.bare = treeE a := treeE_map _ a
  have hbb : treeE b.bare = treeE b := treeE_map _ b
  have HCA := hidd (fun W (hW : Below w.heap.size w W) => check_tr E B a W (ha.ob hW) (hE.ob hW))
  have HCB := hidd (fun W (hW : Below w.heap.size w W) => check_tr E B b W (hb.ob hW) (hE.ob hW))
  have hbd : treeE a ≤ 10 := scan_bd _ _
  have hbd2 : treeE b ≤ 10 := scan_bd _ _
  have HOA := hidd (fun W (hW : Below w.heap.size w W) => ha.ob hW)
  have HOB := hidd (fun W (hW : Below w.heap.size w W) => hb.ob hW)
  have HB2 := hidd hB2
  have hz2 := hB2.size
  unfold nval at HCA HCB ⊢
  obtain ⟨ka, da, ea, va, ksa⟩ := a
  obtain ⟨kb, db, eb, vb, ksb⟩ := b
  simp only [Tr.v, Tr.kids] at hav hbv
  subst hav hbv
  simp only [Tr.kind, Tr.data, Tr.exec, Tr.v] at *
  clear hB2
  by_cases h0 : treeE (Tr.mk ka da ea (.slice aa ksa.length ac) ksa : Lt) = 0
  · rw [h0] at HCA
    have HE0 := hidd h0
    by_cases h1 : treeE (Tr.mk kb db eb (.slice ba ksb.length bc) ksb : Lt) = 0
    · rw [h1] at HCB
      have HE1 := hidd h1
      simp only [evc_zero] at HCA HCB
      have hsa := right_sz h0
      have hsb := right_sz h1
      have HND := hidd (fun pd W (hI : DfI pd [] (.slice none 0 0) W) (hW : Below w.heap.size w W) (hpd : w.heap.size ≤ pd) => nodes_h 200 pd [] _ _ _ ⟨#[]⟩ W hsa h0 h1 (HOA.out W hW) (HOB.out W hW) (in_mono (fun b hb => by omega) _ (ok_in _ ha)) (in_mono (fun b hb => by omega) _ (ok_in _ hb)) hI (by simp only [List.length_nil]; omega) (by decide))
      simp only [nval, Tr.kind, Tr.data, Tr.exec, Tr.v] at HND
      have HBA := hidd hba
      have HBB := hidd hbb
      clear h0 h1 hba hbb hbd hbd2 hsa hsb ha hb
      go_enter Tryd.func9, Tryd.ntmps9
      go_wp2_with fail
      refine (HCA.out _ HB2.out).mono ?_
      rintro e w3 ⟨rfl, hb3⟩
      have hB3 := HB2.out.trans (hb3.mono hz2)
      have hk2 := hq2.below hb3 hq2.lt
      have hk1 := hq1.below hb3 hq1.lt
      have d0 := hk2.cell (i := 0) rfl
      have d1 := hk2.cell (i := 1) rfl
      have d2 := hk2.cell (i := 2) rfl
      have d3 := hk2.cell (i := 3) rfl
      have HK1 := hidd hk1
      have HK2 := hidd hk2
      have HB3 := hidd hB3
      clear hb3 hB3 hk1 hk2 hq1 hq2 hz2 HCA
      go_wp2_with fail
      refine (HCB.out _ HB3.out).mono ?_
      rintro e w4 ⟨rfl, hb4⟩
      have hB4 := HB3.out.trans (hb4.mono HB3.out.size)
      have HB4 := hidd hB4
      have hk1 := HK1.out.below hb4 HK1.out.lt
      have hk2 := HK2.out.below hb4 HK2.out.lt
      have hI0 := DfI.start w4
      have hB5 := HB4.out.trans (((Below.refl w4.heap.size w4).alloc (Nat.le_refl _) (.cells #[.slice none 0 0] 55)).mono HB4.out.size)
      have HC := hidd (HND.out w4.heap.size _ hI0 hB5 HB4.out.size)
      have HB5 := hidd hB5
      have hk1 := hk1.alloc (.cells #[.slice none 0 0] 55)
      have hk2 := hk2.alloc (.cells #[.slice none 0 0] 55)
      have c0 := hk1.cell (i := 0) rfl
      have c1 := hk1.cell (i := 1) rfl
      have c2 := hk1.cell (i := 2) rfl
      have c3 := hk1.cell (i := 3) rfl
      have d0 := hk2.cell (i := 0) rfl
      have d1 := hk2.cell (i := 1) rfl
      have d2 := hk2.cell (i := 2) rfl
      have d3 := hk2.cell (i := 3) rfl
      clear hb4 hB4 hk1 hk2 hI0 hB5 HCB HB3 HK1 HK2 HND
      go_wp2_with fail
      refine HC.out.mono ?_
      rintro e w6 ⟨rfl, ls, v, hI, hls, hb6⟩
      have hx := hI.b.cell (i := 0) rfl
      have HR : Hid (DiffP E (Tr.mk ka da ea (.slice aa ksa.length ac) ksa : Lt).bare (Tr.mk kb db eb (.slice ba ksb.length bc) ksb : Lt).bare w (.returned (.tuple #[v, .nilIface])) w6) := hidd ⟨HB5.out.trans (hb6.mono HB4.out.size), .inr ⟨ls, v, by rw [HBA.out]; exact HE0.out, by rw [HBB.out]; exact HE1.out, rfl, hls, by rw [List.nil_append] at hI; exact ⟨hI.ow.sl, hI.ok⟩⟩⟩
      clear hI hls hb6 c0 c1 c2 c3 d0 d1 d2 d3
      go_wp2_with fail
      go_ret2
      exact HR.out
    · have HE1 := hidd h1
      rw [evc_zero] at HCA
      obtain ⟨ad, had⟩ := evc_some (E := E) h1
      rw [had] at HCB
      have HEV := hidd had
      clear had
      go_enter Tryd.func9, Tryd.ntmps9
      go_wp2_with fail
      refine (HCA.out _ HB2.out).mono ?_
      rintro e w3 ⟨rfl, hb3⟩
      have hB3 := HB2.out.trans (hb3.mono hz2)
      have hk2 := hq2.below hb3 hq2.lt
      have hk1 := hq1.below hb3 hq1.lt
      have d0 := hk2.cell (i := 0) rfl
      have d1 := hk2.cell (i := 1) rfl
      have d2 := hk2.cell (i := 2) rfl
      have d3 := hk2.cell (i := 3) rfl
      have HK1 := hidd hk1
      have HK2 := hidd hk2
      have HB3 := hidd hB3
      clear hb3 hB3 hk1 hk2 hq1 hq2 hz2 HCA
      go_wp2_with fail
      refine (HCB.out _ HB3.out).mono ?_
      rintro e w4 ⟨rfl, hb4⟩
      have hB4 := HB3.out.trans (hb4.mono HB3.out.size)
      have HB4 := hidd hB4
      clear hb4 hB4
      go_wp2_with fail
      go_ret2
      exact ⟨HB4.out, .inl ⟨_, .inr ⟨by rw [hba]; exact HE0.out, rfl⟩, by rw [hbb]; exact HE1.out, by rw [hbb]; exact hbd2, by rw [hbb, HEV.out]; rfl⟩⟩
  · have HE0 := hidd h0
    obtain ⟨ad, had⟩ := evc_some (E := E) h0
    rw [had] at HCA
    have HEV := hidd had
    clear HCB had
    go_enter Tryd.func9, Tryd.ntmps9
    go_wp2_with fail
    refine (HCA.out _ HB2.out).mono ?_
    rintro e w3 ⟨rfl, hb3⟩
    have HB3 := hidd (HB2.out.trans (hb3.mono hz2))
    clear hb3 h0
    go_wp2_with fail
    go_ret2
    exact ⟨HB3.out, .inl ⟨_, .inl rfl, by rw [hba]; exact HE0.out, by rw [hba]; exact hbd, by rw [hba, HEV.out]; rfl⟩⟩
end Go.Proofs.YtoaedkinlnkkhaaDoor

namespace Go.Proofs.YtoaedkinlnkkhaaDoor
open Go.RowKit Go.Shelf
/-- A dir; a dir of a file. -/
def D1 : Lt := .mk ⟨#[100, 105, 114]⟩ ⟨#[]⟩ false (.slice none 0 0) []
def D0 (v : Value) : Lt := .mk ⟨#[100, 105, 114]⟩ ⟨#[]⟩ false v [(⟨#[97]⟩, .mk ⟨#[102, 105, 108, 101]⟩ ⟨#[120, 121]⟩ false (.slice none 0 0) [])]
def DF : Nd := .mk ⟨#[102, 105, 108, 101]⟩ ⟨#[120, 121]⟩ false () []
theorem d_diff (v : Value) : diffOf D1.bare (D0 v).bare = [⟨kAdd, ⟨#[47, 97]⟩, DF⟩] := by
  unfold diffOf
  rw [diffT_dirs (fun e => by cases e) rfl rfl]
  show diffK (diffT 199) ⟨#[]⟩ [] [(⟨#[97]⟩, DF)] = _
  rw [diffK_right _ _ (fun a xs' e => by cases e), diffK_nil]
  rfl
theorem d1ok (w : World) : D1.Ok w := Tr.Ok.mk' (Sl.nil _ 5) (by intro y hy; cases hy) (by intro y hy; cases hy)
theorem d0ok (w : World) : (D0 (.slice (some ⟨w.heap.size, 0, none⟩) 1 1)).Ok (w.alloc (.cells #[.string ⟨#[97]⟩, .string ⟨#[102, 105, 108, 101]⟩, .string ⟨#[120, 121]⟩, .bool false, .slice none 0 0] 48)) := by
  refine Tr.Ok.mk' ?_ ?_ ?_
  · exact Sl.new w [.string ⟨#[97]⟩, .string ⟨#[102, 105, 108, 101]⟩, .string ⟨#[120, 121]⟩, .bool false, .slice none 0 0] 48 5 rfl
  · intro x hx
    simp only [D0, Tr.kids, List.mem_cons, List.not_mem_nil, or_false] at hx
    subst hx; decide
  · intro x hx
    simp only [D0, Tr.kids, List.mem_cons, List.not_mem_nil, or_false] at hx
    subst hx
    exact Tr.Ok.mk' (Sl.nil _ 5) (by intro y hy; cases hy) (by intro y hy; cases hy)

set_option maxRecDepth 100000 in
set_option maxHeartbeats 40000000 in
theorem differed_true (E : Nat → Addr) (B : Nat) (w : World) (hE : Env trGs B w E) :
    Calls Tryd.prog 6 #[] w fun e w' => e = .returned (.bool true) ∧ Below w.heap.size w w' := by
  obtain ⟨w1, hw1⟩ : ∃ W, w.alloc (.cells #[.string ⟨#[100, 105, 114]⟩, .string ⟨#[]⟩, .bool false, .slice none 0 0] 24) = W := ⟨_, rfl⟩
  have hz1 : w1.heap.size = w.heap.size + 1 := by rw [← hw1]; simp
  have hB1 : Below w.heap.size w w1 := by rw [← hw1]; exact (Below.refl _ _).alloc (Nat.le_refl _) _
  have hB3 : Below w.heap.size w ((w1.alloc (.cells #[.string ⟨#[97]⟩, .string ⟨#[102, 105, 108, 101]⟩, .string ⟨#[120, 121]⟩, .bool false, .slice none 0 0] 48)).alloc (.cells #[.string ⟨#[100, 105, 114]⟩, .string ⟨#[]⟩, .bool false, .slice (some ⟨w1.heap.size, 0, none⟩) 1 1] 24)) := (hB1.alloc hB1.size _).alloc (by simp; omega) _
  have ht2 := (d0ok w1).alloc (.cells #[.string ⟨#[100, 105, 114]⟩, .string ⟨#[]⟩, .bool false, .slice (some ⟨w1.heap.size, 0, none⟩) 1 1] 24)
  have HG := hidd (diff_any E B D1 (D0 (.slice (some ⟨w1.heap.size, 0, none⟩) 1 1)) _ (d1ok _) ht2 (hE.ob hB3))
  rw [hz1, ← hw1] at HG
  rw [hz1, ← hw1] at hB3
  simp only [nval, D0, D1, Tr.kind, Tr.data, Tr.exec, Tr.v] at HG
  clear ht2 hE hw1 hz1 hB1
  go_enter Tryd.func6, Tryd.ntmps6
  go_wp2_with fail
  refine HG.out.mono ?_
  rintro e w5 ⟨hb5, hr⟩
  have hB5 := hB3.trans (hb5.mono hB3.size)
  rcases hr with ⟨c, hc, hc0, -⟩ | ⟨ls, v, -, -, rfl, hm, hch⟩
  · exact absurd (by rcases hc with rfl | ⟨-, rfl⟩ <;> rfl) hc0
  · rw [show (Tr.mk ⟨#[100, 105, 114]⟩ ⟨#[]⟩ false (.slice none 0 0) [] : Lt).bare = D1.bare from rfl] at hm
    have hm2 := hm.trans (d_diff _)
    obtain ⟨c, rfl⟩ := List.length_eq_one_iff.1 (show ls.length = 1 by simpa using congrArg List.length hm2)
    simp only [List.map_cons, List.map_nil, List.cons.injEq, and_true] at hm2
    obtain ⟨va, vc, rfl, -⟩ := id hch.sl
    obtain ⟨b1, o1, rfl, hb1, a0, a1, a2, a3, a4, a5⟩ := sl_atc hch.sl (i := 0) (by simp)
    simp only [Nat.zero_mul, Nat.add_zero, List.getElem_cons_zero] at a0 a1 a2 a3 a4 a5
    have h1 : c.kind = kAdd := congrArg (Ch.kind (α := Unit)) hm2
    have h2 : c.path = ⟨#[47, 97]⟩ := congrArg (Ch.path (α := Unit)) hm2
    have h3 : c.n.bare.data = ⟨#[120, 121]⟩ := congrArg (fun x : Ch Unit => x.n.data) hm2
    have h4 : c.n.data = ⟨#[120, 121]⟩ := by rw [← h3]; exact (Tr.data_map _ c.n).symm
    rw [h1] at a0
    rw [h2] at a1
    rw [h4] at a3
    unfold kAdd at a0
    clear hm2 hm hch h1 h2 h3 h4 hb5 hB3 HG
    simp only [List.length_cons, List.length_nil, Nat.zero_add]
    go_wp2_with fail
    go_ret
    exact ⟨rfl, hB5⟩
end Go.Proofs.YtoaedkinlnkkhaaDoor
