/- Trees as plain data: nodes, their list (a dir ahead of its kids), the first thing wrong, cut lists. No condition. · Trees in memory: where the kids of each node lie. Condition: the cells are there. · Trees in memory: the blocks that they lie in; append as a step of a region. Condition: as stated. · The contract of the reference's SameTree. Condition: the trees are there. · The contract of OwnNode. Condition: the tree is there, and has few nodes. -/
import Derived.WalkKit
import Derived.Laws.Cover1
import Derived.Test.YtoemahhpheobkaaGreatDoorApp
import Derived.Deep.RegionLaw
import Derived.WalkLawsBesides
import Derived.Lib.Hide
import Derived.Lib.Strings
import Derived.WideShapes
namespace Go.Proofs.YtoemahhpheobkaaGreatDoor

/-- A node; v: whatever goes with it (where its kids lie). -/
inductive Tr (α : Type) where
  | mk (kind data : ByteArray) (exec : Bool) (v : α) (kids : List (ByteArray × Tr α))
namespace Tr
variable {α β : Type}
def kind : Tr α → ByteArray | mk k _ _ _ _ => k
def data : Tr α → ByteArray | mk _ d _ _ _ => d
def exec : Tr α → Bool | mk _ _ e _ _ => e
def v : Tr α → α | mk _ _ _ v _ => v
def kids : Tr α → List (ByteArray × Tr α) | mk _ _ _ _ ks => ks
theorem eta (t : Tr α) : t = mk t.kind t.data t.exec t.v t.kids := by cases t; rfl
mutual
def sz : Tr α → Nat
  | mk _ _ _ _ ks => szs ks + 1
def szs : List (ByteArray × Tr α) → Nat
  | [] => 0
  | (_, t) :: r => t.sz + szs r
end
theorem szs_mem : ∀ {ks : List (ByteArray × Tr α)} {x}, x ∈ ks → x.2.sz ≤ szs ks
  | (n, t) :: r, x, h => by
    rw [szs]
    rcases List.mem_cons.1 h with rfl | h
    · simp
    · have := szs_mem h; omega
theorem sz_kids (t : Tr α) : t.sz = szs t.kids + 1 := by cases t; rfl
theorem sz_lt {t : Tr α} {x} (h : x ∈ t.kids) : x.2.sz < t.sz := by have := szs_mem h; have := sz_kids t; omega
theorem szs_app : ∀ (a b : List (ByteArray × Tr α)), szs (a ++ b) = szs a + szs b
  | [], b => by simp [szs]
  | (n, t) :: r, b => by rw [List.cons_append, szs, szs, szs_app r b]; omega
mutual
def map (f : α → β) : Tr α → Tr β
  | mk k d e v ks => mk k d e (f v) (maps f ks)
def maps (f : α → β) : List (ByteArray × Tr α) → List (ByteArray × Tr β)
  | [] => []
  | (n, t) :: r => (n, t.map f) :: maps f r
end
theorem maps_eq (f : α → β) : ∀ ks : List (ByteArray × Tr α), maps f ks = ks.map fun x => (x.1, x.2.map f)
  | [] => rfl
  | (n, t) :: r => by rw [maps, maps_eq f r]; rfl
theorem kind_map (f : α → β) (t : Tr α) : (t.map f).kind = t.kind := by cases t; rfl
theorem data_map (f : α → β) (t : Tr α) : (t.map f).data = t.data := by cases t; rfl
theorem exec_map (f : α → β) (t : Tr α) : (t.map f).exec = t.exec := by cases t; rfl
theorem kids_map (f : α → β) (t : Tr α) : (t.map f).kids = t.kids.map fun x => (x.1, x.2.map f) := by cases t; simp [map, kids, maps_eq]
theorem names_map (f : α → β) (t : Tr α) : (t.map f).kids.map (·.1) = t.kids.map (·.1) := by rw [kids_map, List.map_map]; rfl
end Tr

/-- What a tree is, wherever it lies. -/
abbrev Nd := Tr Unit
def Tr.bare {α : Type} (t : Tr α) : Nd := t.map fun _ => ()
theorem Tr.eq_of {a b : Nd} (h1 : a.kind = b.kind) (h2 : a.data = b.data) (h3 : a.exec = b.exec) (h4 : a.kids = b.kids) : a = b := by
  cases a; cases b; simp only [kind, data, exec, kids] at *; subst h1 h2 h3 h4; rfl

def kFile : ByteArray := ⟨#[102, 105, 108, 101]⟩
def kDir : ByteArray := ⟨#[100, 105, 114]⟩
def kLink : ByteArray := ⟨#[108, 105, 110, 107]⟩

def letterB (c : UInt8) : Bool := (97 ≤ c && c ≤ 122) || (48 ≤ c && c ≤ 57) || c == 46 || c == 45
def isName (s : ByteArray) : Bool := s.data.toList.all letterB && decide (1 ≤ s.size) && decide (s.size ≤ 12) && !decide (s.data.toList = [46]) && !decide (s.data.toList = [46, 46])
def plainB (c : UInt8) : Bool := 33 ≤ c && c ≤ 126
def linkOk (s : ByteArray) : Bool := s.data.toList.all plainB
/-- a < b -/
def ltB (a b : ByteArray) : Bool := Op.bytesLess a.toList b.toList
def leB (a b : ByteArray) : Bool := Op.bytesLess a.toList b.toList || a.toList == b.toList
def rising : List ByteArray → Bool
  | a :: b :: r => !leB b a && rising (b :: r)
  | _ => true

section
variable {α β : Type}
def shapeB (t : Tr α) : Bool :=
  if t.kind = kFile then decide (t.kids.length = 0) else if t.kind = kDir then decide (t.data.size = 0) && !t.exec else !t.exec && decide (t.kids.length = 0)
/-- What is wrong with a node alone: an error's number. -/
def ownE (t : Tr α) : Nat :=
  if ¬ (t.kind = kFile ∨ t.kind = kDir ∨ t.kind = kLink) then 4
  else if shapeB t = false then 3
  else if 2000 < t.data.size ∨ (t.kind = kLink ∧ (t.data.size = 0 ∨ 40 < t.data.size)) then 2
  else if t.kind = kLink ∧ linkOk t.data = false then 1
  else if (t.kids.map (·.1)).all isName = false then 5
  else if rising (t.kids.map (·.1)) = false then 10
  else 0
theorem ownE_map (f : α → β) (t : Tr α) : ownE (t.map f) = ownE t := by
  have hl : (t.map f).kids.length = t.kids.length := by rw [Tr.kids_map]; simp
  unfold ownE shapeB
  rw [Tr.names_map, Tr.kind_map, Tr.data_map, Tr.exec_map, hl]
theorem ownE_bd (t : Tr α) : ownE t ≤ 10 := by
  unfold ownE; repeat (split; omega)
  omega

/-- A node of a tree with its path, and how deep it lies. -/
structure It (α : Type) where
  path : ByteArray
  deep : Nat
  n : Tr α
def It.map (f : α → β) (x : It α) : It β := ⟨x.path, x.deep, x.n.map f⟩
def sub (p n : ByteArray) : ByteArray := p ++ ⟨#[47]⟩ ++ n
mutual
def pre (p : ByteArray) (d : Nat) : Tr α → List (It α)
  | .mk k da e v ks => ⟨p, d, .mk k da e v ks⟩ :: pres p (d + 1) ks
def pres (p : ByteArray) (d : Nat) : List (ByteArray × Tr α) → List (It α)
  | [] => []
  | (n, t) :: r => pre (sub p n) d t ++ pres p d r
end
theorem pre_cons (p : ByteArray) (d : Nat) (t : Tr α) : pre p d t = ⟨p, d, t⟩ :: pres p (d + 1) t.kids := by cases t; rfl
theorem pres_app (p : ByteArray) (d : Nat) : ∀ (a b : List (ByteArray × Tr α)), pres p d (a ++ b) = pres p d a ++ pres p d b
  | [], b => by simp [pres]
  | (n, t) :: r, b => by rw [List.cons_append, pres, pres, pres_app p d r b, List.append_assoc]
theorem pres_one (p : ByteArray) (d : Nat) (n : ByteArray) (t : Tr α) : pres p d [(n, t)] = pre (sub p n) d t := by simp [pres]
mutual
theorem pre_len (p : ByteArray) (d : Nat) : ∀ t : Tr α, (pre p d t).length = t.sz
  | .mk k da e v ks => by rw [pre, Tr.sz, List.length_cons, pres_len p (d + 1) ks]
theorem pres_len (p : ByteArray) (d : Nat) : ∀ ks : List (ByteArray × Tr α), (pres p d ks).length = Tr.szs ks
  | [] => rfl
  | (n, t) :: r => by rw [pres, Tr.szs, List.length_append, pre_len _ d t, pres_len p d r]
end
mutual
theorem pre_map (f : α → β) (p : ByteArray) (d : Nat) : ∀ t : Tr α, pre p d (t.map f) = (pre p d t).map (It.map f)
  | .mk k da e v ks => by rw [Tr.map, pre, pre, List.map_cons, pres_map f p (d + 1) ks]; rfl
theorem pres_map (f : α → β) (p : ByteArray) (d : Nat) : ∀ ks : List (ByteArray × Tr α), pres p d (Tr.maps f ks) = (pres p d ks).map (It.map f)
  | [] => rfl
  | (n, t) :: r => by rw [Tr.maps, pres, pres, List.map_append, pre_map f _ d t, pres_map f p d r]
end

/-- The first thing wrong in a list of nodes, behind c others. -/
def scan : Nat → List (It α) → Nat
  | _, [] => 0
  | c, x :: r => if 8 < x.deep then 9 else if 200 ≤ c then 8 else if 0 < ownE x.n then ownE x.n else scan (c + 1) r
def treeE (t : Tr α) : Nat := scan 0 (pre ⟨#[]⟩ 0 t)
theorem scan_map (f : α → β) : ∀ (l : List (It α)) (c : Nat), scan c (l.map (It.map f)) = scan c l
  | [], _ => rfl
  | x :: r, c => by
    rw [List.map_cons, scan, scan, scan_map f r]
    rw [show (It.map f x).n = x.n.map f from rfl, ownE_map]
    rfl
theorem treeE_map (f : α → β) (t : Tr α) : treeE (t.map f) = treeE t := by unfold treeE; rw [pre_map, scan_map]
theorem scan_bd : ∀ (l : List (It α)) (c : Nat), scan c l ≤ 10
  | [], _ => by simp [scan]
  | x :: r, c => by
    rw [scan]
    have := scan_bd r (c + 1)
    have := ownE_bd x.n
    repeat (split; omega)
    omega
theorem scan_app : ∀ (l r : List (It α)) (c : Nat), scan c (l ++ r) = if scan c l = 0 then scan (c + l.length) r else scan c l
  | [], r, c => by simp [scan]
  | x :: l, r, c => by
    rw [List.cons_append, scan, scan]
    by_cases h1 : 8 < x.deep
    · simp [h1]
    · by_cases h2 : 200 ≤ c
      · simp [h1, h2]
      · by_cases h3 : 0 < ownE x.n
        · simp only [h1, h2, h3, if_true, if_false]; rw [if_neg (by omega)]
        · simp only [h1, h2, h3, if_false]
          rw [scan_app l r (c + 1), List.length_cons, show c + 1 + l.length = c + (l.length + 1) by omega]
mutual
theorem scan_path (p q : ByteArray) (d c : Nat) : ∀ (t : Tr α), scan c (pre p d t) = scan c (pre q d t)
  | .mk k da e v ks => by rw [pre, pre, scan, scan, scans_path p q (d + 1) (c + 1) ks]
theorem scans_path (p q : ByteArray) (d c : Nat) : ∀ (ks : List (ByteArray × Tr α)), scan c (pres p d ks) = scan c (pres q d ks)
  | [] => rfl
  | (n, t) :: r => by
    rw [pres, pres, scan_app, scan_app, scan_path (sub p n) (sub q n) d c t, scans_path p q d _ r, pre_len, pre_len]
end
theorem scan_zero : ∀ {l : List (It α)} {c : Nat}, scan c l = 0 → (∀ x ∈ l, x.deep ≤ 8 ∧ ownE x.n = 0) ∧ (l ≠ [] → c + l.length ≤ 200)
  | [], c, _ => ⟨by simp, by simp⟩
  | x :: r, c, h => by
    rw [scan] at h
    split at h; omega
    split at h; omega
    split at h; omega
    obtain ⟨h1, h2⟩ := scan_zero h
    refine ⟨fun y hy => ?_, fun _ => ?_⟩
    · rcases List.mem_cons.1 hy with rfl | hy
      · exact ⟨by omega, by omega⟩
      · exact h1 y hy
    · cases r with
      | nil => simp; omega
      | cons y r => have := h2 (by simp); simp only [List.length_cons] at this ⊢; omega
theorem scan_of : ∀ {l : List (It α)} {c : Nat}, (∀ x ∈ l, x.deep ≤ 8 ∧ ownE x.n = 0) → c + l.length ≤ 200 → scan c l = 0
  | [], _, _, _ => rfl
  | x :: r, c, h, hl => by
    simp only [List.length_cons] at hl
    obtain ⟨h1, h2⟩ := h x (by simp)
    rw [scan, if_neg (by omega), if_neg (by omega), if_neg (by omega)]
    exact scan_of (fun y hy => h y (by simp [hy])) (by omega)
theorem scan_take : ∀ (l : List (It α)) (c m : Nat), 1 ≤ m → 201 ≤ c + m → scan c l = scan c (l.take m)
  | [], c, m, _, _ => by simp
  | x :: r, c, m + 1, _, h => by
    rw [List.take_succ_cons, scan, scan]
    by_cases hc : 200 ≤ c
    · simp [hc]
    · rw [scan_take r (c + 1) m (by omega) (by omega)]

-- the list of nodes that stops at so deep a one
mutual
def prec (D : Nat) (p : ByteArray) (d : Nat) : Tr α → List (It α)
  | .mk k da e v ks => ⟨p, d, .mk k da e v ks⟩ :: if D < d then [] else precs D p (d + 1) ks
def precs (D : Nat) (p : ByteArray) (d : Nat) : List (ByteArray × Tr α) → List (It α)
  | [] => []
  | (n, t) :: r => prec D (sub p n) d t ++ precs D p d r
end
theorem prec_cons (D : Nat) (p : ByteArray) (d : Nat) (t : Tr α) : prec D p d t = ⟨p, d, t⟩ :: if D < d then [] else precs D p (d + 1) t.kids := by cases t; rfl
mutual
theorem prec_full (D : Nat) (p : ByteArray) (d : Nat) : ∀ t : Tr α, (∀ x ∈ prec D p d t, x.deep ≤ D) → prec D p d t = pre p d t
  | .mk k da e v ks => fun h => by
    rw [prec] at h ⊢
    rw [pre]
    have h0 : d ≤ D := h ⟨p, d, .mk k da e v ks⟩ (List.mem_cons_self ..)
    rw [if_neg (by omega)] at h ⊢
    rw [precs_full D p (d + 1) ks (fun x hx => h x (by simp [hx]))]
theorem precs_full (D : Nat) (p : ByteArray) (d : Nat) : ∀ ks : List (ByteArray × Tr α), (∀ x ∈ precs D p d ks, x.deep ≤ D) → precs D p d ks = pres p d ks
  | [] => fun _ => rfl
  | (n, t) :: r => fun h => by
    rw [precs] at h ⊢
    rw [pres, prec_full D _ d t (fun x hx => h x (by simp [hx])), precs_full D p d r (fun x hx => h x (by simp [hx]))]
end
mutual
theorem scan_prec (p : ByteArray) (d c : Nat) : ∀ (t : Tr α), scan c (prec 8 p d t) = scan c (pre p d t)
  | .mk k da e v ks => by
    rw [prec, pre, scan, scan]
    by_cases h : 8 < d
    · simp [h]
    · simp only [h, if_false]
      rw [(scan_precs p (d + 1) (c + 1) ks).1]
theorem scan_precs (p : ByteArray) (d c : Nat) : ∀ (ks : List (ByteArray × Tr α)), scan c (precs 8 p d ks) = scan c (pres p d ks) ∧ True
  | [] => ⟨rfl, trivial⟩
  | (n, t) :: r => by
    refine ⟨?_, trivial⟩
    rw [precs, pres, scan_app, scan_app, scan_prec (sub p n) d c t]
    by_cases h : scan c (pre (sub p n) d t) = 0
    · rw [if_pos h, if_pos h]
      have h1 : scan c (prec 8 (sub p n) d t) = 0 := by rw [scan_prec (sub p n) d c t]; exact h
      rw [prec_full 8 _ d t (fun x hx => ((scan_zero h1).1 x hx).1), (scan_precs p d _ r).1]
    · rw [if_neg h, if_neg h]
end

/-- The kids of a node, so many at most. -/
def kidsOf (m : Nat) (x : It α) : List (It α) := (x.n.kids.take m).map fun k => ⟨sub x.path k.1, x.deep + 1, k.2⟩
/-- What the reference's list of nodes makes of what is still to do. -/
def lo (m D : Nat) : Nat → List (It α) → List (It α)
  | 0, todo => todo
  | _ + 1, [] => []
  | f + 1, x :: r => x :: lo m D f ((if D < x.deep then [] else kidsOf m x) ++ r)
def precL (D : Nat) (l : List (It α)) : List (It α) := l.flatMap fun x => prec D x.path x.deep x.n
theorem precL_app (D : Nat) (a b : List (It α)) : precL D (a ++ b) = precL D a ++ precL D b := by simp [precL]
theorem precL_len (D : Nat) : ∀ l : List (It α), l.length ≤ (precL D l).length
  | [] => by simp [precL]
  | x :: r => by
    have := precL_len D r
    simp only [precL, List.flatMap_cons, List.length_append, List.length_cons, prec_cons] at this ⊢
    omega
theorem precs_eq (D : Nat) (p : ByteArray) (d : Nat) : ∀ ks : List (ByteArray × Tr α), precs D p d ks = precL D (ks.map fun k => ⟨sub p k.1, d, k.2⟩)
  | [] => rfl
  | (n, t) :: r => by rw [precs, precs_eq D p d r]; rfl
theorem precL_cons (D : Nat) (x : It α) (r : List (It α)) : precL D (x :: r) = x :: ((if D < x.deep then [] else precL D (x.n.kids.map fun k => ⟨sub x.path k.1, x.deep + 1, k.2⟩)) ++ precL D r) := by
  simp only [precL, List.flatMap_cons]
  rw [prec_cons]
  split
  · rfl
  · rw [precs_eq]; rfl
theorem lo_prec (m D : Nat) : ∀ (f : Nat) (todo : List (It α)), f ≤ m → (lo m D f todo).take f = (precL D todo).take f ∧ ((lo m D f todo).length ≤ f → lo m D f todo = precL D todo)
  | 0, todo, _ => by
    refine ⟨by simp, fun h => ?_⟩
    rw [lo] at h ⊢
    have : todo = [] := List.eq_nil_of_length_eq_zero (by omega)
    subst this; rfl
  | f + 1, [], _ => by simp [lo, precL]
  | f + 1, x :: r, hm => by
    rw [lo, precL_cons]
    by_cases hd : D < x.deep
    · simp only [hd, if_true, List.nil_append, List.take_succ_cons, List.length_cons]
      obtain ⟨h1, h2⟩ := lo_prec m D f r (by omega)
      exact ⟨by rw [h1], fun h => by rw [h2 (by omega)]⟩
    · simp only [hd, if_false, List.take_succ_cons, List.length_cons]
      obtain ⟨h1, h2⟩ := lo_prec m D f (kidsOf m x ++ r) (by omega)
      rw [precL_app] at h1 h2
      by_cases hk : x.n.kids.length ≤ m
      · have e : kidsOf m x = x.n.kids.map fun k => ⟨sub x.path k.1, x.deep + 1, k.2⟩ := by unfold kidsOf; rw [List.take_of_length_le hk]
        rw [e] at h1 h2 ⊢
        exact ⟨by rw [h1], fun h => by rw [h2 (by omega)]⟩
      · have e : x.n.kids.map (fun k => (⟨sub x.path k.1, x.deep + 1, k.2⟩ : It α)) = kidsOf m x ++ (x.n.kids.drop m).map (fun k => ⟨sub x.path k.1, x.deep + 1, k.2⟩) := by
          unfold kidsOf; rw [← List.map_append, List.take_append_drop]
        have hl : f < (precL D (kidsOf m x)).length := by
          have := precL_len D (kidsOf m x)
          have e2 : (kidsOf m x).length = m := by unfold kidsOf; rw [List.length_map, List.length_take]; omega
          omega
        rw [e, precL_app]
        refine ⟨?_, fun h => ?_⟩
        · rw [h1, List.take_append_of_le_length (by omega), List.append_assoc, List.take_append_of_le_length (by omega)]
        · have := h2 (by omega)
          rw [this, List.length_append] at h
          omega
/-- The reference's list of nodes. -/
def listOf (most D : Nat) (t : Tr α) : List (It α) := lo (most + 1) D (most + 1) [⟨⟨#[]⟩, 0, t⟩]
theorem listOf_take (most D : Nat) (t : Tr α) : (listOf most D t).take (most + 1) = (prec D ⟨#[]⟩ 0 t).take (most + 1) := by
  have := (lo_prec (most + 1) D (most + 1) [(⟨⟨#[]⟩, 0, t⟩ : It α)] (Nat.le_refl _)).1
  simpa [listOf, precL] using this
theorem listOf_eq (most D : Nat) (t : Tr α) (h : (listOf most D t).length ≤ most + 1) : listOf most D t = prec D ⟨#[]⟩ 0 t := by
  have := (lo_prec (most + 1) D (most + 1) [(⟨⟨#[]⟩, 0, t⟩ : It α)] (Nat.le_refl _)).2 h
  simpa [listOf, precL] using this
theorem listOf_scan (t : Tr α) : scan 0 (listOf 200 8 t) = treeE t := by
  rw [scan_take _ 0 201 (by omega) (by omega), listOf_take, ← scan_take _ 0 201 (by omega) (by omega), scan_prec]; rfl
theorem listOf_right (t : Tr α) (h : treeE t = 0) : listOf 200 8 t = pre ⟨#[]⟩ 0 t := by
  have h0 : scan 0 (prec 8 ⟨#[]⟩ 0 t) = 0 := by rw [scan_prec]; exact h
  obtain ⟨h1, h2⟩ := scan_zero h0
  have h3 := h2 (by rw [prec_cons]; simp)
  have e := prec_full 8 ⟨#[]⟩ 0 t (fun x hx => (h1 x hx).1)
  rw [← e]
  refine listOf_eq 200 8 t ?_
  have h4 := congrArg List.length (listOf_take 200 8 t)
  rw [List.length_take, List.length_take] at h4
  omega
/-- A tree that is no larger than a statement looks at. -/
structure Small (most : Nat) (t : Tr α) : Prop where
  many : t.sz ≤ most
  each : ∀ x ∈ pre ⟨#[]⟩ 0 t, x.deep ≤ 11 ∧ (x.n.data.size ≤ 100 ∨ x.n.data.size = 2001) ∧ x.n.kind.size ≤ 20 ∧ ∀ k ∈ x.n.kids, k.1.size ≤ 30
theorem small_of (most : Nat) (t : Tr α) (hl : (listOf most 12 t).length ≤ most) (h : ∀ x ∈ listOf most 12 t, x.deep ≤ 11 ∧ (x.n.data.size ≤ 100 ∨ x.n.data.size = 2001) ∧ x.n.kind.size ≤ 20 ∧ ∀ k ∈ x.n.kids, k.1.size ≤ 30) : Small most t := by
  have e := listOf_eq most 12 t (by omega)
  rw [e] at hl h
  have e2 := prec_full 12 ⟨#[]⟩ 0 t (fun x hx => by have := (h x hx).1; omega)
  rw [e2] at hl h
  exact ⟨by rw [← pre_len ⟨#[]⟩ 0 t]; exact hl, h⟩
end
end Go.Proofs.YtoemahhpheobkaaGreatDoor

namespace Go.Proofs.YtoemahhpheobkaaGreatDoor
open Go.RowKit

/-- A tree with the slice of each node's kids. -/
abbrev Lt := Tr Value
def ncells (t : Lt) : List Value := [.string t.kind, .string t.data, .bool t.exec, t.v]
def nval (t : Lt) : Value := .agg #[.string t.kind, .string t.data, .bool t.exec, t.v]
def kcells (l : List (ByteArray × Lt)) : List Value := l.flatMap fun x => .string x.1 :: ncells x.2
theorem kcells_len (l : List (ByteArray × Lt)) : (kcells l).length = l.length * 5 := by
  induction l with
  | nil => rfl
  | cons x r ih =>
    have e : kcells (x :: r) = .string x.1 :: .string x.2.kind :: .string x.2.data :: .bool x.2.exec :: x.2.v :: kcells r := rfl
    rw [e]; simp only [List.length_cons, ih]; omega
theorem kcells_app (a b : List (ByteArray × Lt)) : kcells (a ++ b) = kcells a ++ kcells b := by simp [kcells]
theorem kcells_at : ∀ (l : List (ByteArray × Lt)) (i : Nat) (h : i < l.length), (kcells l)[i * 5]? = some (.string l[i].1) ∧ (kcells l)[i * 5 + 1]? = some (.string l[i].2.kind) ∧ (kcells l)[i * 5 + 2]? = some (.string l[i].2.data) ∧ (kcells l)[i * 5 + 3]? = some (.bool l[i].2.exec) ∧ (kcells l)[i * 5 + 4]? = some l[i].2.v
  | x :: l, 0, h => ⟨rfl, rfl, rfl, rfl, rfl⟩
  | x :: l, i + 1, h => by
    have := kcells_at l i (by simpa using h)
    have e : kcells (x :: l) = .string x.1 :: .string x.2.kind :: .string x.2.data :: .bool x.2.exec :: x.2.v :: kcells l := rfl
    rw [e, show (i + 1) * 5 = i * 5 + 1 + 1 + 1 + 1 + 1 by omega, show i * 5 + 1 + 1 + 1 + 1 + 1 + 1 = i * 5 + 1 + 1 + 1 + 1 + 1 + 1 by rfl,
      show i * 5 + 1 + 1 + 1 + 1 + 1 + 2 = i * 5 + 2 + 1 + 1 + 1 + 1 + 1 by omega, show i * 5 + 1 + 1 + 1 + 1 + 1 + 3 = i * 5 + 3 + 1 + 1 + 1 + 1 + 1 by omega, show i * 5 + 1 + 1 + 1 + 1 + 1 + 4 = i * 5 + 4 + 1 + 1 + 1 + 1 + 1 by omega]
    simpa using this

mutual
def Tr.Ok (w : World) : Lt → Prop
  | .mk _ _ _ v ks => Sl w v (kcells ks) ks.length 5 ∧ (∀ x ∈ ks, x.1.size ≤ 140737488351232) ∧ Oks w ks
def Oks (w : World) : List (ByteArray × Lt) → Prop
  | [] => True
  | (_, t) :: r => Tr.Ok w t ∧ Oks w r
end
theorem oks_iff {w : World} : ∀ {ks : List (ByteArray × Lt)}, Oks w ks ↔ ∀ x ∈ ks, Tr.Ok w x.2
  | [] => by simp [Oks]
  | (n, t) :: r => by rw [Oks, oks_iff]; simp
section
variable {w w' : World} {t : Lt}
theorem Tr.Ok.mk' (h1 : Sl w t.v (kcells t.kids) t.kids.length 5) (h2 : ∀ x ∈ t.kids, x.1.size ≤ 140737488351232) (h3 : ∀ x ∈ t.kids, Tr.Ok w x.2) : Tr.Ok w t := by
  cases t; rw [Tr.Ok]; exact ⟨h1, h2, oks_iff.2 h3⟩
theorem Tr.Ok.sl (h : t.Ok w) : Sl w t.v (kcells t.kids) t.kids.length 5 := by cases t; rw [Tr.Ok] at h; exact h.1
theorem Tr.Ok.names (h : t.Ok w) : ∀ x ∈ t.kids, x.1.size ≤ 140737488351232 := by cases t; rw [Tr.Ok] at h; exact h.2.1
theorem Tr.Ok.kid (h : t.Ok w) {x : ByteArray × Lt} (hx : x ∈ t.kids) : x.2.Ok w := by cases t; rw [Tr.Ok] at h; exact oks_iff.1 h.2.2 x hx
theorem Tr.Ok.get (h : t.Ok w) {i : Nat} (hi : i < t.kids.length) : t.kids[i].2.Ok w := h.kid (List.getElem_mem hi)
mutual
theorem ok_ob (hf : Below w.heap.size w w') : ∀ t : Lt, t.Ok w → t.Ok w'
  | .mk _ _ _ _ ks => fun h => by rw [Tr.Ok] at h ⊢; exact ⟨h.1.ob hf (Nat.le_refl _), h.2.1, oks_ob hf ks h.2.2⟩
theorem oks_ob (hf : Below w.heap.size w w') : ∀ ks : List (ByteArray × Lt), Oks w ks → Oks w' ks
  | [] => fun _ => by rw [Oks]; trivial
  | (n, t) :: r => fun h => by rw [Oks] at h ⊢; exact ⟨ok_ob hf t h.1, oks_ob hf r h.2⟩
end
theorem Tr.Ok.ob (h : t.Ok w) (hf : Below w.heap.size w w') : t.Ok w' := ok_ob hf t h
theorem Tr.Ok.alloc (h : t.Ok w) (o : Obj) : t.Ok (w.alloc o) := h.ob ((Below.refl _ _).alloc (Nat.le_refl _) o)
/-- The cells of kid i, in the walk's spelling. -/
theorem Tr.Ok.at5 {a : Option Addr} {n cap : Nat} (h : t.Ok w) (hv : t.v = .slice a n cap) {i : Nat} (hi : i < t.kids.length) :
    ∃ b off, a = some ⟨b, off, none⟩ ∧ b < w.heap.size ∧ w.cell? ⟨b, off + i * 5, none⟩ = some (.string t.kids[i].1) ∧ w.cell? ⟨b, off + i * 5 + 1, none⟩ = some (.string t.kids[i].2.kind) ∧ w.cell? ⟨b, off + i * 5 + 2, none⟩ = some (.string t.kids[i].2.data) ∧ w.cell? ⟨b, off + i * 5 + 3, none⟩ = some (.bool t.kids[i].2.exec) ∧ w.cell? ⟨b, off + i * 5 + 4, none⟩ = some t.kids[i].2.v := by
  obtain ⟨a', cap', he, h1, h2, h2', h3⟩ := h.sl
  rw [hv] at he
  simp only [Value.slice.injEq] at he
  obtain ⟨rfl, rfl, rfl⟩ := he
  rcases h3 with h3 | ⟨b, off, rfl, h4, h5⟩
  · omega
  · have hl := kcells_len t.kids
    obtain ⟨k0, k1, k2, k3, k4⟩ := kcells_at t.kids i hi
    refine ⟨b, off, rfl, h4, ?_, ?_, ?_, ?_, ?_⟩
    · rw [h5 _ (by omega)]; rw [List.getElem?_eq_getElem (by omega)] at k0; exact k0
    · rw [Nat.add_assoc, h5 _ (by omega)]; rw [List.getElem?_eq_getElem (by omega)] at k1; exact k1
    · rw [Nat.add_assoc, h5 _ (by omega)]; rw [List.getElem?_eq_getElem (by omega)] at k2; exact k2
    · rw [Nat.add_assoc, h5 _ (by omega)]; rw [List.getElem?_eq_getElem (by omega)] at k3; exact k3
    · rw [Nat.add_assoc, h5 _ (by omega)]; rw [List.getElem?_eq_getElem (by omega)] at k4; exact k4
theorem Tr.Ok.shape (h : t.Ok w) : ∃ a cap, t.v = .slice a t.kids.length cap := by
  obtain ⟨a, cap, he, -⟩ := h.sl
  exact ⟨a, cap, he⟩
theorem Tr.Ok.le (h : t.Ok w) : t.kids.length ≤ 9223372036854775807 := h.sl.le
end
end Go.Proofs.YtoemahhpheobkaaGreatDoor

namespace Go.Proofs.YtoemahhpheobkaaGreatDoor
open Go.RowKit

/-- append onto a slice that is owned, as one step of a region that draws. -/
theorem step_append_tr {P : Program} {ops : Array Oper} {o : Oper} {a : Act} {w : World} {K : Act → World → Prop} {Q : Exit → Act → World → Prop} {E : Prop} (hgd : o.guard = none) (s x : Operand) (t tx : TypeId)
    (ho : o.op = .call { callee := .builtin .append, args := #[s, x], argTypes := #[t, tx] })
    (F : Nat → Prop) (hF : ∀ g, w.heap.size ≤ g → F g) (e : TypeId) (i : TypeInfo) (z : Value) (size bytes : Nat) (ht : P.underlying t = some (.slice e)) (hi : P.info? e = some i) (hz : i.zero = some z)
    (hsize : i.size = size) (hby : i.bytes = bytes) (hzs : z.cells.size = size) (hsz : 0 < size)
    (v : Value) (n : Nat) (xs : List Value) (hv : a.eval s = v) (hown : Ow F w e size v n xs) (y : Value) (m : Nat) (news : List Value) (hy : a.eval x = y) (hs : Src P size tx y m news w)
    (h63 : n + m ≤ maxLen) (hbytes : (n + m) * bytes ≤ 140737488355328)
    (h : ∀ v' w', Ow F w' e size v' (n + m) (xs ++ news) → w.grownBy w' v.ownBlock → K (a.put o.dst v') w') :
    if Region.wanted o (yielded ops a.tmps) = true then Oper.wp P o a w K Q else E := by
  have hw : Region.wanted o (yielded ops a.tmps) = true := by simp [Region.wanted, hgd]
  rw [if_pos hw]
  obtain ⟨v', w', hr, h2, h3⟩ := run_append_ow (P := P) w F hF t tx o.type e i z size bytes ht hi hz hsize hby hzs hsz v n xs hown y m news hs h63 hbytes
  unfold Oper.wp execOp
  simp only [ho, resolve, invoke, builtin, Sem.run_bind, Sem.run_pure, Result.andThen_ok, List.map_toArray, List.map_cons, List.map_nil, hv, hy, hr]
  exact h v' w' h2 h3

theorem Ow.self {F : Nat → Prop} {w : World} {e : TypeId} {size : Nat} {v : Value} {n : Nat} {xs : List Value} (h : Ow F w e size v n xs) : Ow (fun g => v.ownBlock = some g) w e size v n xs := by
  refine ⟨h.1, ?_⟩
  rcases h.2 with hx | ⟨g, off, cap, cur, rfl, hb, rest⟩
  · exact .inl hx
  · exact .inr ⟨g, off, cap, cur, rfl, rfl, rest⟩

/-- One result, that lies in a cell. -/
theorem results_cell1 {fn : Func} {p : Tmp} {ty : TypeId} (h : fn.results = #[.cell p ty]) (tmps : Array Value) (P : Program) (w : World) :
    (results fn tmps).run P w = ((asAddr (tmps.getD p undef)).run P w).andThen fun a w₁ => (loadVar ty a).run P w₁ := by
  simp only [results, h]
  simp [Sem.run_bind, Result.andThen]

mutual
def Tr.In (F : Nat → Prop) : Lt → Prop
  | .mk _ _ _ v ks => (ks ≠ [] → ∀ b, v.ownBlock = some b → F b) ∧ InS F ks
def InS (F : Nat → Prop) : List (ByteArray × Lt) → Prop
  | [] => True
  | (_, t) :: r => Tr.In F t ∧ InS F r
end
theorem inS_iff {F : Nat → Prop} : ∀ {ks : List (ByteArray × Lt)}, InS F ks ↔ ∀ x ∈ ks, Tr.In F x.2
  | [] => by simp [InS]
  | (n, t) :: r => by rw [InS, inS_iff]; simp
mutual
theorem in_mono {F G : Nat → Prop} (h : ∀ b, F b → G b) : ∀ t : Lt, t.In F → t.In G
  | .mk _ _ _ _ ks => fun k => by rw [Tr.In] at k ⊢; exact ⟨fun hn b hb => h b (k.1 hn b hb), inS_mono h ks k.2⟩
theorem inS_mono {F G : Nat → Prop} (h : ∀ b, F b → G b) : ∀ ks : List (ByteArray × Lt), InS F ks → InS G ks
  | [] => fun _ => by rw [InS]; trivial
  | (n, t) :: r => fun k => by rw [InS] at k ⊢; exact ⟨in_mono h t k.1, inS_mono h r k.2⟩
end
theorem sl_lt {w : World} {v : Value} {cs : List Value} {n size : Nat} (h : Sl w v cs n size) (h0 : 0 < n) : ∀ b, v.ownBlock = some b → b < w.heap.size := by
  obtain ⟨a, cap, rfl, _, _, _, h3⟩ := h
  intro b hb
  rcases h3 with h3 | ⟨b', off, rfl, hl, _⟩
  · omega
  · simp [Value.ownBlock] at hb; omega
theorem sl_fr0 {w w' : World} {S : Nat → Prop} (hf : Fr S w w') {v : Value} (ks : List (ByteArray × Lt)) (h : Sl w v (kcells ks) ks.length 5) (hk : ks ≠ [] → ∀ b, v.ownBlock = some b → ¬ S b) : Sl w' v (kcells ks) ks.length 5 := by
  cases ks with
  | nil =>
    obtain ⟨a, cap, rfl, h1, h2, h3, _⟩ := h
    exact ⟨a, cap, rfl, h1, h2, h3, .inl rfl⟩
  | cons x r => exact h.fr hf (hk (by simp))
mutual
theorem ok_in {w : World} : ∀ t : Lt, t.Ok w → t.In (fun b => b < w.heap.size)
  | .mk _ _ _ _ ks => fun h => by
    rw [Tr.Ok] at h; rw [Tr.In]
    refine ⟨fun hn => sl_lt h.1 ?_, oks_in ks h.2.2⟩
    cases ks with
    | nil => exact absurd rfl hn
    | cons x r => simp
theorem oks_in {w : World} : ∀ ks : List (ByteArray × Lt), Oks w ks → InS (fun b => b < w.heap.size) ks
  | [] => fun _ => by rw [InS]; trivial
  | (n, t) :: r => fun h => by rw [Oks] at h; rw [InS]; exact ⟨ok_in t h.1, oks_in r h.2⟩
end
theorem Tr.In.kid {F : Nat → Prop} {t : Lt} (h : t.In F) {x : ByteArray × Lt} (hx : x ∈ t.kids) : x.2.In F := by
  cases t; rw [Tr.In] at h; exact inS_iff.1 h.2 x hx
theorem Tr.In.get {F : Nat → Prop} {t : Lt} (h : t.In F) {i : Nat} (hi : i < t.kids.length) : t.kids[i].2.In F := h.kid (List.getElem_mem hi)
mutual
theorem ok_fr {w w' : World} {S : Nat → Prop} (hf : Fr S w w') : ∀ t : Lt, t.Ok w → t.In (fun b => ¬ S b) → t.Ok w'
  | .mk _ _ _ _ ks => fun h k => by rw [Tr.Ok] at h ⊢; rw [Tr.In] at k; exact ⟨sl_fr0 hf ks h.1 k.1, h.2.1, oks_fr hf ks h.2.2 k.2⟩
theorem oks_fr {w w' : World} {S : Nat → Prop} (hf : Fr S w w') : ∀ ks : List (ByteArray × Lt), Oks w ks → InS (fun b => ¬ S b) ks → Oks w' ks
  | [] => fun _ _ => by rw [Oks]; trivial
  | (n, t) :: r => fun h k => by rw [Oks] at h ⊢; rw [InS] at k; exact ⟨ok_fr hf t h.1 k.1, oks_fr hf r h.2 k.2⟩
end
theorem one_kcells (l : List (ByteArray × Lt)) (w : World) (h : Oks w l) : ∀ u ∈ kcells l, u.oneCell' = true := by
  intro u hu
  unfold kcells at hu
  obtain ⟨x, hx, hu⟩ := List.mem_flatMap.1 hu
  obtain ⟨a, cap, hv⟩ := (oks_iff.1 h x hx).shape
  simp only [ncells, List.mem_cons, List.not_mem_nil, or_false] at hu
  rcases hu with rfl | rfl | rfl | rfl | rfl
  · rfl
  · rfl
  · rfl
  · rfl
  · rw [hv]; rfl
end Go.Proofs.YtoemahhpheobkaaGreatDoor

namespace Go.Proofs.YtoemahhpheobkaaGreatDoor
open Go.RowKit

theorem Tr.bare_kids_len {a b : Lt} (h : a.bare = b.bare) : a.kids.length = b.kids.length := by
  have := congrArg (fun t : Nd => t.kids.length) h
  simpa [Tr.bare, Tr.kids_map] using this
theorem Tr.bare_iff {a b : Lt} : a.bare = b.bare ↔ a.kind = b.kind ∧ a.data = b.data ∧ a.exec = b.exec ∧ a.kids.length = b.kids.length ∧ ∀ i (h : i < a.kids.length) (h' : i < b.kids.length), a.kids[i].1 = b.kids[i].1 ∧ a.kids[i].2.bare = b.kids[i].2.bare := by
  constructor
  · intro h
    refine ⟨by simpa [Tr.bare, Tr.kind_map] using congrArg Tr.kind h, by simpa [Tr.bare, Tr.data_map] using congrArg Tr.data h, by simpa [Tr.bare, Tr.exec_map] using congrArg Tr.exec h, Tr.bare_kids_len h, fun i hi hi' => ?_⟩
    have hk := congrArg Tr.kids h
    unfold Tr.bare at hk
    rw [Tr.kids_map, Tr.kids_map] at hk
    have := congrArg (fun l => l[i]?) hk
    simp only [List.getElem?_map, List.getElem?_eq_getElem hi, List.getElem?_eq_getElem hi', Option.map_some, Option.some.injEq, Prod.mk.injEq] at this
    exact this
  · rintro ⟨h1, h2, h3, h4, h5⟩
    refine Tr.eq_of (by simpa [Tr.bare, Tr.kind_map] using h1) (by simpa [Tr.bare, Tr.data_map] using h2) (by simpa [Tr.bare, Tr.exec_map] using h3) ?_
    unfold Tr.bare
    rw [Tr.kids_map, Tr.kids_map]
    refine List.ext_getElem (by simpa using h4) (fun i hi hi' => ?_)
    simp only [List.getElem_map, Prod.mk.injEq]
    exact h5 i (by simpa using hi) (by simpa using hi')

theorem ne_str {a b : ByteArray} (h : a ≠ b) : a.toList ≠ b.toList := fun e => h (Go.WideShapes.bytes_inj (by rw [← Lib.toList_data, ← Lib.toList_data]; exact e))
theorem bne_str {a b : ByteArray} (h : a ≠ b) : (a.toList != b.toList) = true := by simpa using ne_str h
theorem beq_str {a b : ByteArray} (h : a ≠ b) : (a.toList == b.toList) = false := by simpa using ne_str h
end Go.Proofs.YtoemahhpheobkaaGreatDoor

namespace Go.Proofs.YtoemahhpheobkaaGreatDoor
open Go.RowKit

theorem infoKid : (Tryz.prog.info? 85).map (fun i => (i.zero, i.size, i.bytes)) = some (some (.agg #[.string ⟨#[]⟩, .string ⟨#[]⟩, .string ⟨#[]⟩, .bool false, .slice none 0 0]), 5, 80) := by kernel_rfl

/-- A tree of its own. -/
def OwnP (t : Lt) (w : World) (e : Ending) (w' : World) : Prop :=
  ∃ (a : Option Addr) (c : Nat) (ks : List (ByteArray × Lt)), e = .returned (.agg #[.string t.kind, .string t.data, .bool t.exec, .slice a ks.length c]) ∧
    (Tr.mk t.kind t.data t.exec (.slice a ks.length c) ks : Lt).bare = t.bare ∧ (Tr.mk t.kind t.data t.exec (.slice a ks.length c) ks : Lt).Ok w' ∧ (Tr.mk t.kind t.data t.exec (.slice a ks.length c) ks : Lt).In (fun b => w.heap.size ≤ b ∧ b < w'.heap.size) ∧ Below w.heap.size w w'

theorem own_rel {B : Nat} {wr w5 w6 w7 : World} {ls : List (ByteArray × Lt)} {v v' : Value} {k : Nat} {kid : ByteArray × Lt} {o : Obj} {T : TypeId} (hown6 : Ow (fun g => B + 2 ≤ g) w6 T 5 v k (kcells ls)) (hrl : ∀ b, v.ownBlock = some b → b < wr.heap.size)
    (hz : wr.heap.size ≤ w5.heap.size) (hz6 : w6.heap.size = w5.heap.size + 1) (hok6 : Oks w6 ls) (hin : InS (fun b => B + 2 ≤ b ∧ b < wr.heap.size ∧ v.ownBlock ≠ some b) ls)
    (hk : kid.2.Ok w6) (hki : kid.2.In (fun b => wr.heap.size ≤ b ∧ b < w5.heap.size)) (hBw : B + 2 ≤ wr.heap.size) (hg : (w6.drew.alloc o).grownBy w7 v.ownBlock)
    (hown' : Ow (fun g => w6.heap.size ≤ g ∨ v.ownBlock = some g) w7 T 5 v' (k + 1) (kcells ls ++ kcells [kid])) :
    Ow (fun g => B + 2 ≤ g) w7 T 5 v' (k + 1) (kcells (ls ++ [kid])) ∧ Oks w7 (ls ++ [kid]) ∧ InS (fun b => B + 2 ≤ b ∧ b < w7.heap.size ∧ v'.ownBlock ≠ some b) (ls ++ [kid]) ∧ Fr (fun b => v.ownBlock = some b) w6 w7 := by
  have hF : Fr (fun b => v.ownBlock = some b) w6 w7 := (((Fr.refl (fun b => v.ownBlock = some b) w6).drew).alloc o).grown hg (fun b hb => .inl hb)
  have hz7 := hF.size
  have hb' := hown'.blk
  refine ⟨?_, ?_, ?_, hF⟩
  · rw [kcells_app]
    exact hown'.mono (fun g hg => by
      rcases hg with h | h
      · omega
      · exact (hown6.blk g h).1)
  · rw [oks_iff]
    intro x hx
    rcases List.mem_append.1 hx with h | h
    · exact ok_fr hF x.2 (oks_iff.1 hok6 x h) (in_mono (fun b hb => hb.2.2) x.2 (inS_iff.1 hin x h))
    · simp only [List.mem_cons, List.not_mem_nil, or_false] at h
      subst h
      exact ok_fr hF x.2 hk (in_mono (fun b hb e => by have := hrl b e; omega) x.2 hki)
  · rw [inS_iff]
    intro x hx
    rcases List.mem_append.1 hx with h | h
    · refine in_mono (fun b hb => ⟨hb.1, by omega, fun e => ?_⟩) x.2 (inS_iff.1 hin x h)
      rcases (hb' b e).1 with h1 | h1
      · omega
      · exact hb.2.2 h1
    · simp only [List.mem_cons, List.not_mem_nil, or_false] at h
      subst h
      refine in_mono (fun b hb => ⟨by omega, by omega, fun e => ?_⟩) x.2 hki
      rcases (hb' b e).1 with h1 | h1
      · omega
      · have := hrl b h1; omega

set_option maxRecDepth 100000 in
set_option maxHeartbeats 4000000 in
theorem own_any (m : Nat) : ∀ (t : Lt) (w : World), t.sz ≤ m → m ≤ 300 → t.Ok w → Calls Tryz.prog 9 #[nval t] w (OwnP t w) := by
  induction m with
  | zero => intro t w hm; have := Tr.sz_kids t; omega
  | succ m ih =>
    intro t w hm hm3 ht
    obtain ⟨i0, hi, hz0, hz1, hz2⟩ := info_parts infoKid
    obtain ⟨ta, tc, htv⟩ := ht.shape
    have hkl : t.kids.length ≤ m := by
      have h1 := Tr.sz_kids t
      have h2 : t.kids.length ≤ Tr.szs t.kids := by
        rw [← pres_len ⟨#[]⟩ 0]
        generalize t.kids = l
        clear ih hm ht htv h1
        induction l with
        | nil => simp
        | cons x r ih => obtain ⟨n, t⟩ := x; rw [pres, List.length_append, pre_cons]; simp only [List.length_cons]; omega
      omega
    have HKA : Hid (∀ i (h : i < t.kids.length), t.kids[i].2.sz ≤ m) := hidd (fun i h => by have := Tr.sz_lt (List.getElem_mem h); omega)
    obtain ⟨kd, da, ex, va, ks⟩ := t
    simp only [Tr.v, Tr.kids] at *
    subst htv
    unfold nval
    simp only [Tr.kind, Tr.data, Tr.exec, Tr.v]
    have hq1 := (Blk.new w [.string kd, .string da, .bool ex, .slice ta ks.length tc] 32).alloc (.cells #[.string ⟨#[]⟩, .string ⟨#[]⟩, .bool false, .slice none 0 0] 32)
    have hq2 := Blk.new (w.alloc (.cells #[.string kd, .string da, .bool ex, .slice ta ks.length tc] 32)) [.string ⟨#[]⟩, .string ⟨#[]⟩, .bool false, .slice none 0 0] 32
    rw [show (w.alloc (.cells #[.string kd, .string da, .bool ex, .slice ta ks.length tc] 32)).heap.size = w.heap.size + 1 by simp] at hq2
    have hB0 : Below w.heap.size w ((w.alloc (.cells #[.string kd, .string da, .bool ex, .slice ta ks.length tc] 32)).alloc (.cells #[.string ⟨#[]⟩, .string ⟨#[]⟩, .bool false, .slice none 0 0] 32)) := ((Below.refl _ _).alloc (Nat.le_refl _) _).alloc (by simp) _
    clear hm
    go_enter Tryz.func9, Tryz.ntmps9
    go_wp2_with fail
    go_loopw [3, 4] (fun v t wr => ∃ (k : Nat) (ls : List (ByteArray × Lt)), k ≤ ks.length ∧ t = .int .i64 (k : Int) ∧ ls.length = k ∧ (∀ i (h : i < ls.length) (h' : i < ks.length), ls[i].1 = ks[i].1 ∧ ls[i].2.bare = ks[i].2.bare) ∧
        Ow (fun g => w.heap.size + 2 ≤ g) wr 85 5 v k (kcells ls) ∧ Oks wr ls ∧ InS (fun b => w.heap.size + 2 ≤ b ∧ b < wr.heap.size ∧ v.ownBlock ≠ some b) ls ∧
        Blk wr w.heap.size [.string kd, .string da, .bool ex, .slice ta ks.length tc] 32 ∧ Blk wr (w.heap.size + 1) [.string ⟨#[]⟩, .string ⟨#[]⟩, .bool false, .slice none 0 0] 32 ∧ Below w.heap.size w wr) (fun _ t _ => ks.length - (intOf t).toNat)
    case atStart => exact ⟨0, [], Nat.zero_le _, rfl, rfl, fun i h => by simp at h, Ow.nil _ _ _ _, by rw [Oks]; trivial, by rw [InS]; trivial, hq1, hq2, hB0⟩
    case round =>
      obtain ⟨k, ls, hk, rfl, hll, heq, hown, hok, hin, hb1, hb2, hbel⟩ := hrel
      obtain ⟨va, vc, rfl⟩ := hown.shape
      have hcA := hb1.cell (i := 3) rfl
      have hlt1 := hb2.lt
      by_cases hlt : k < ks.length
      · have hxs := HKA.out k hlt
        have hA := ht.ob hbel
        have hxk := hA.get hlt
        have hnm := hA.names _ (List.getElem_mem hlt)
        obtain ⟨b1, o1, rfl, hbb1, a0, a1, a2, a3, a4⟩ := hA.at5 rfl hlt
        simp only [Tr.kids] at a0 a1 a2 a3 a4 hxk hnm
        have p1 : (0 : Int) ≤ (k : Int) := by omega
        have p2 : (k : Int) < (ks.length : Int) := by omega
        obtain ⟨x, hx⟩ : ∃ x, ks[k] = x := ⟨_, rfl⟩
        have HX : Hid (ks[k] = x) := hidd hx
        rw [hx] at a0 a1 a2 a3 a4 hxk hxs hnm
        clear hx hA
        have HC := ih x.2 wr hxs (by omega) hxk
        go_wp2_with fail
        refine HC.mono ?_
        rintro e w5 ⟨xa, xc, ks', rfl, hbr, hok', hin', hb5⟩
        go_wp2_with fail
        have hn5 := Blk.new w5 [.string x.2.kind, .string x.2.data, .bool x.2.exec, .slice xa ks'.length xc] 32
        have hbA : Below wr.heap.size wr (w5.alloc (.cells #[.string x.2.kind, .string x.2.data, .bool x.2.exec, .slice xa ks'.length xc] 32)) := hb5.alloc hb5.size _
        have hown6 := (hown.ob hbA)
        have hin6 := hin
        have hok6 := oks_ob hbA ls hok
        have hb16 := hb1.below hbA hb1.lt
        have hb26 := hb2.below hbA hb2.lt
        have hcA6 := hb16.cell (i := 3) rfl
        have hcN6 := (hbA.cell (p := ⟨b1, o1 + k * 5, none⟩) hbb1).trans a0
        have d0 := hn5.cell (i := 0) rfl
        have d1 := hn5.cell (i := 1) rfl
        have d2 := hn5.cell (i := 2) rfl
        have d3 := hn5.cell (i := 3) rfl
        have hsz5 := hb5.size
        have hok6' := hok'.ob ((Below.refl w5.heap.size w5).alloc (Nat.le_refl _) (.cells #[.string x.2.kind, .string x.2.data, .bool x.2.exec, .slice xa ks'.length xc] 32))
        have hw6s : (w5.alloc (.cells #[.string x.2.kind, .string x.2.data, .bool x.2.exec, .slice xa ks'.length xc] 32)).heap.size = w5.heap.size + 1 := by simp
        have HRL : Hid (∀ b, (Value.slice va k vc).ownBlock = some b → b < wr.heap.size) := hidd (fun b hb => (hown.blk b hb).2)
        clear hn5 hown hok hb1 hb2 hcA a0 a1 a2 a3 a4 hxk ht hok' hb5 HC hin
        generalize w5.alloc (.cells #[.string x.2.kind, .string x.2.data, .bool x.2.exec, .slice xa ks'.length xc] 32) = w6 at *
        have hs1 := Src.new (P := Tryz.prog) (size := 5) (tx := 30) Tryz.underlying30 w6.drew w6.heap.size rfl [.string x.1, .string x.2.kind, .string x.2.data, .bool x.2.exec, .slice xa ks'.length xc] 85 rfl (by intro u hu; simp only [List.mem_cons, List.not_mem_nil, or_false] at hu; rcases hu with rfl | rfl | rfl | rfl | rfl <;> rfl) 1
        have hz6 := hbA.size
        go_region_law (first
          | (refine step_append_tr rfl (.tmp 20) (.tmp 29) 30 30 rfl (fun g => w6.heap.size ≤ g ∨ (Value.slice va k vc).ownBlock = some g) (fun g hg => by simp at hg; exact .inl (by omega)) 85 i0 _ 5 80 Tryz.underlying30 hi hz0 hz1 hz2 rfl (by decide) _ _ _ (by simp [Act.eval]) ((hown6.self.mono (fun g hg => .inr hg)).drew.alloc _) _ _ _ (by simp [Act.eval]) hs1 (by unfold maxLen; omega) (by omega) ?_; intro v' w7 hown' hgrow))
        all_goals
          obtain ⟨r1, r2, r3, r4⟩ := own_rel (kid := (x.1, .mk x.2.kind x.2.data x.2.exec (.slice xa ks'.length xc) ks')) hown6 HRL.out (by omega) hw6s hok6 hin6 hok6' hin' (by omega) hgrow hown'
          have HEQ : Hid (∀ i (h : i < (ls ++ [((x.1, .mk x.2.kind x.2.data x.2.exec (.slice xa ks'.length xc) ks') : ByteArray × Lt)]).length) (h' : i < ks.length), (ls ++ [((x.1, .mk x.2.kind x.2.data x.2.exec (.slice xa ks'.length xc) ks') : ByteArray × Lt)])[i].1 = ks[i].1 ∧ (ls ++ [((x.1, .mk x.2.kind x.2.data x.2.exec (.slice xa ks'.length xc) ks') : ByteArray × Lt)])[i].2.bare = ks[i].2.bare) := hidd (fun i h h' => by
            by_cases e : i < ls.length
            · rw [List.getElem_append_left e]; exact heq i e h'
            · obtain rfl : i = k := by simp at h; omega
              rw [List.getElem_append_right (by omega), HX.out]
              simp only [hll, Nat.sub_self, List.getElem_cons_zero]
              exact ⟨trivial, hbr⟩)
          have hb17 := hb16.fr r4 (fun e => by have := (hown6.blk _ e).1; omega)
          have hb27 := hb26.fr r4 (fun e => by have := (hown6.blk _ e).1; omega)
          have hbel7 : Below w.heap.size w w7 := (hbel.trans (hbA.mono hbel.size)).trans (r4.below (B := w.heap.size) (by omega) (fun b e => by have := (hown6.blk b e).1; omega))
          have HLL : Hid ((ls ++ [((x.1, .mk x.2.kind x.2.data x.2.exec (.slice xa ks'.length xc) ks') : ByteArray × Lt)]).length = k + 1) := hidd (by simp [hll])
          have H1 := hidd r1
          have H2 := hidd r2
          have H3 := hidd r3
          clear r1 r2 r3 r4 hown' hgrow hb16 hb26 hbr hok6 hok6' hin6 hin' hown6 hcA6 hcN6 d0 d1 d2 d3 hs1 heq hll
          go_wp2_with fail
          go_roundw
          case rel => exact ⟨k + 1, _, hlt, by go_num, HLL.out, HEQ.out, H1.out, H2.out, H3.out, hb17, hb27, hbel7⟩
          case measure => simp [intOf]; omega
      · have hkk : k = ks.length := by omega
        have HP : Hid ((Tr.mk kd da ex (.slice va ls.length vc) ls : Lt).bare = (Tr.mk kd da ex (.slice ta ks.length tc) ks : Lt).bare ∧ (∀ x ∈ ls, x.1.size ≤ 140737488351232) ∧ Oks wr ls ∧ InS (fun b => w.heap.size + 2 ≤ b ∧ b < wr.heap.size ∧ (Value.slice va k vc).ownBlock ≠ some b) ls) := hidd ⟨by
            rw [Tr.bare_iff]
            exact ⟨rfl, rfl, rfl, by simp only [Tr.kids]; omega, fun i h h' => heq i h h'⟩, fun x hx => by
            obtain ⟨i, hi, rfl⟩ := List.getElem_of_mem hx
            rw [(heq i hi (by omega)).1]
            exact ht.names _ (List.getElem_mem (by omega : i < ks.length)), hok, hin⟩
        have hslt : ¬ ((k : Int) < (ks.length : Int)) := by omega
        have hf3 := hb1.frozen 3
        have hs3 := hb1.set 3 (.slice va k vc)
        have hq3 := hb2.other (a := ⟨w.heap.size, 3, none⟩) (by simp) (.slice va k vc)
        have hown3 := hown.set (a := ⟨w.heap.size, 3, none⟩) (by simp) (.slice va k vc)
        have hB3 := hbel.setCell (p := ⟨w.heap.size, 3, none⟩) (Nat.le_refl _) (.slice va k vc)
        have hF3 := (Fr.refl (fun b => b = w.heap.size ∨ b = w.heap.size + 1) wr).setCell (p := ⟨w.heap.size, 3, none⟩) (.inl (.inl rfl)) (.slice va k vc)
        have HLL := hidd hll
        have HKK := hidd hkk
        clear hok hin heq hq1 hq2 hB0 ht hll hkk hbel
        generalize hw3 : wr.setCell ⟨w.heap.size, 3, none⟩ (.slice va k vc) = w3 at *
        have d0 := hs3.cell (i := 0) rfl
        have d1 := hs3.cell (i := 1) rfl
        have d2 := hs3.cell (i := 2) rfl
        have d3 := hs3.cell (i := 3) rfl
        have e0 := hq3.cell (i := 0) rfl
        have f0 := hq3.frozen 0
        have s1 := hq3.set 0 (.string kd)
        have e1 := s1.cell (i := 1) rfl
        have f1 := s1.frozen 1
        have s2 := s1.set 1 (.string da)
        have e2 := s2.cell (i := 2) rfl
        have f2 := s2.frozen 2
        have s3 := s2.set 2 (.bool ex)
        have e3 := s3.cell (i := 3) rfl
        have f3 := s3.frozen 3
        have s4 := s3.set 3 (.slice va k vc)
        have r0 := s4.cell (i := 0) rfl
        have r1 := s4.cell (i := 1) rfl
        have r2 := s4.cell (i := 2) rfl
        have r3 := s4.cell (i := 3) rfl
        go_wp2_with fail
        refine bodyPost_ret (v := .agg #[.string kd, .string da, .bool ex, .slice va k vc]) ?_ rfl ?_
        · rw [results_cell1 rfl]
          go_simp
        · have hFF := (((hF3.setCell (p := ⟨w.heap.size + 1, 0, none⟩) (.inl (.inr rfl)) (.string kd)).setCell (p := ⟨w.heap.size + 1, 1, none⟩) (.inl (.inr rfl)) (.string da)).setCell (p := ⟨w.heap.size + 1, 2, none⟩) (.inl (.inr rfl)) (.bool ex)).setCell (p := ⟨w.heap.size + 1, 3, none⟩) (.inl (.inr rfl)) (.slice va k vc)
          have hBB := (((hB3.setCell (p := ⟨w.heap.size + 1, 0, none⟩) (by simp) (.string kd)).setCell (p := ⟨w.heap.size + 1, 1, none⟩) (by simp) (.string da)).setCell (p := ⟨w.heap.size + 1, 2, none⟩) (by simp) (.bool ex)).setCell (p := ⟨w.heap.size + 1, 3, none⟩) (by simp) (.slice va k vc)
          have hOO := (((hown3.set (a := ⟨w.heap.size + 1, 0, none⟩) (by simp) (.string kd)).set (a := ⟨w.heap.size + 1, 1, none⟩) (by simp) (.string da)).set (a := ⟨w.heap.size + 1, 2, none⟩) (by simp) (.bool ex)).set (a := ⟨w.heap.size + 1, 3, none⟩) (by simp) (.slice va k vc)
          obtain ⟨h1, h2, h3, h4⟩ := HP.out
          have hsF := hFF.size
          refine ⟨va, vc, ls, by simp only [Tr.kind, Tr.data, Tr.exec]; rw [HLL.out], h1, ?_, ?_, hBB⟩
          · refine Tr.Ok.mk' ?_ h2 (oks_iff.1 (oks_fr hFF ls h3 (inS_mono (fun b hb e => by omega) ls h4)))
            simp only [Tr.v, Tr.kids]
            have := hOO.sl
            rw [HLL.out]; exact this
          · rw [Tr.In]
            refine ⟨fun _ b hb => ?_, inS_mono (fun b hb => by omega) ls h4⟩
            have hb2 := hOO.blk b (by rw [HLL.out] at hb; exact hb)
            exact ⟨by omega, hb2.2⟩
end Go.Proofs.YtoemahhpheobkaaGreatDoor
