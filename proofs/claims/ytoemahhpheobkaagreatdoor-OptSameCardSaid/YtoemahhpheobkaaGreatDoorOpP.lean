/- OptSame in plain words: which inode a file should be, how many files are not what they should be, what is saved and what is free. No condition. -/
import Derived.Test.YtoemahhpheobkaaGreatDoorDiC
import Derived.Test.YtoemahhpheobkaaGreatDoorDiF
import Derived.Test.YtoemahhpheobkaaGreatDoorSkP
namespace Go.Proofs.YtoemahhpheobkaaGreatDoor
open Go.RowKit Go.Shelf

/-- The blocks of an inode. -/
def blsOf (T : Nat → Option Ino) (k : Nat) : List Nat := match T k with
  | some x => x.bl
  | none => []
def flT (T : Nat → Option Ino) : Nat → List Nat
  | 0 => []
  | k + 1 => flT T k ++ blsOf T k
theorem flT_some {T : Nat → Option Ino} {k : Nat} {x : Ino} (h : T k = some x) : flT T (k + 1) = flT T k ++ x.bl := by
  rw [flT, blsOf, h]
theorem flT_none {T : Nat → Option Ino} {k : Nat} (h : T k = none) : flT T (k + 1) = flT T k := by
  rw [flT, blsOf, h, List.append_nil]
theorem mem_flT {T : Nat → Option Ino} {b : Nat} : ∀ {K : Nat}, b ∈ flT T K ↔ ∃ k x, k < K ∧ T k = some x ∧ b ∈ x.bl
  | 0 => by simp [flT]
  | K + 1 => by
    rw [flT, List.mem_append, mem_flT]
    constructor
    · rintro (⟨k, x, h1, h2, h3⟩ | h)
      · exact ⟨k, x, by omega, h2, h3⟩
      · unfold blsOf at h
        split at h
        · rename_i x hx; exact ⟨K, x, by omega, hx, h⟩
        · simp at h
    · rintro ⟨k, x, h1, h2, h3⟩
      by_cases e : k = K
      · subst e; right; unfold blsOf; rw [h2]; exact h3
      · exact .inl ⟨k, x, by omega, h2, h3⟩
theorem TbAt.flN {pc : Prop} {w : World} {B t p r ps rs m N : Nat} {T : Nat → Option Ino} {us : List Bool} {ls : List ByteArray} (h : TbAt pc w B t p r ps rs m N T us ls) : ∀ K, (flT T K).Nodup
  | 0 => by simp [flT]
  | K + 1 => by
    cases hT : T K with
    | none => rw [flT_none hT]; exact h.flN K
    | some x =>
      rw [flT_some hT, List.nodup_append]
      refine ⟨h.flN K, (h.ok K x hT).nod, fun a ha b hb e => ?_⟩
      subst e
      obtain ⟨k, y, hk, hy, hm⟩ := mem_flT.1 ha
      exact h.dis k K y x hy hT (by omega) a hm hb
theorem TbAt.flFree {pc : Prop} {w : World} {B t p r ps rs m N : Nat} {T : Nat → Option Ino} {us : List Bool} {ls : List ByteArray} (h : TbAt pc w B t p r ps rs m N T us ls) {K : Nat} (hK : ∀ k, K ≤ k → T k = none) : nfree us + (flT T K).length = us.length := by
  have hk : Keeps us.length us [flT T K] := ⟨rfl, by simpa using h.flN K, fun j => by
    rw [h.usd j]
    simp only [List.flatten_cons, List.flatten_nil, List.append_nil]
    rw [mem_flT]
    constructor
    · rintro ⟨k, x, h1, h2⟩
      refine ⟨k, x, ?_, h1, h2⟩
      rcases Nat.lt_or_ge k K with h3 | h3
      · exact h3
      · rw [hK k h3] at h1; cases h1
    · rintro ⟨k, x, -, h1, h2⟩
      exact ⟨k, x, h1, h2⟩⟩
  have := hk.many
  simp only [List.flatten_cons, List.flatten_nil, List.append_nil] at this
  have h2 := usedTo_le us us.length
  unfold nfree
  omega
/-- What must be alike: the bytes that are read, and whether they are run. -/
def kyI (ls : List ByteArray) (T : Nat → Option Ino) (m : Nat) : Option (ByteArray × Bool) := (T m).bind fun x => (rdI ls x).map fun d => (d, x.exec)
/-- The least inode below K of a key. -/
def fstI (ls : List ByteArray) (T : Nat → Option Ino) (K : Nat) (c : ByteArray × Bool) : Option Nat := (List.range K).find? fun m => decide (kyI ls T m = some c)
section
variable {ls : List ByteArray} {T : Nat → Option Ino} {K : Nat} {c : ByteArray × Bool} {n m : Nat}
theorem fst_iff : fstI ls T K c = some m ↔ m < K ∧ kyI ls T m = some c ∧ ∀ j, j < m → kyI ls T j ≠ some c := by
  unfold fstI
  rw [List.find?_range_eq_some]
  simp only [decide_eq_true_eq, List.mem_range, Bool.not_eq_true', decide_eq_false_iff_not, ne_eq]
  constructor
  · rintro ⟨h1, h2, h3⟩; exact ⟨h2, h1, h3⟩
  · rintro ⟨h1, h2, h3⟩; exact ⟨h2, h1, h3⟩
theorem fst_some (h : kyI ls T n = some c) (hn : n < K) : ∃ m, m ≤ n ∧ fstI ls T K c = some m := by
  cases hf : fstI ls T K c with
  | none =>
    unfold fstI at hf
    rw [List.find?_range_eq_none] at hf
    have := hf n hn
    simp [h] at this
  | some m =>
    refine ⟨m, ?_, rfl⟩
    obtain ⟨-, -, h3⟩ := fst_iff.1 hf
    exact Nat.le_of_not_lt fun hlt => h3 n hlt h
/-- Is an inode not the least of its key? -/
def badN (ls : List ByteArray) (T : Nat → Option Ino) (K n : Nat) : Bool := match kyI ls T n with
  | none => false
  | some c => match fstI ls T K c with | none => false | some m => decide (m < n)
theorem badN_true : badN ls T K n = true ↔ ∃ c m, kyI ls T n = some c ∧ fstI ls T K c = some m ∧ m < n := by
  unfold badN
  cases h1 : kyI ls T n with
  | none => simp
  | some c =>
    cases h2 : fstI ls T K c with
    | none => simp [h2]
    | some m => simp [h2]
def badQ (ls : List ByteArray) (T : Nat → Option Ino) (K : Nat) (e : Dt) (q : ByteArray) : Bool := match e.F q with | some n => badN ls T K n | none => false
def cntB (ls : List ByteArray) (T : Nat → Option Ino) (K : Nat) (o : Option Dt) : Nat := match o with | some e => (e.fl.filter fun q => badQ ls T K e q).length | none => 0
def sumN (f : Nat → Nat) : Nat → Nat
  | 0 => 0
  | k + 1 => sumN f k + f k
/-- How many files are not what they should be. -/
def badD (ls : List ByteArray) (T : Nat → Option Ino) (K : Nat) (D : Nat → Option Dt) (X : Nat) : Nat := sumN (fun k => cntB ls T K (D k)) X
theorem sumN_le {f g : Nat → Nat} (h : ∀ i, f i ≤ g i) : ∀ X, sumN f X ≤ sumN g X
  | 0 => Nat.le_refl _
  | X + 1 => by have := sumN_le h X; have := h X; simp only [sumN]; omega
theorem sumN_lt {f g : Nat → Nat} (h : ∀ i, f i ≤ g i) {k : Nat} (hk : f k < g k) : ∀ X, k < X → sumN f X < sumN g X
  | 0, hX => by omega
  | X + 1, hX => by
    simp only [sumN]
    by_cases e : k = X
    · subst e; have := sumN_le h k; omega
    · have := sumN_lt h hk X (by omega); have := h X; omega
theorem sumN_max {f : Nat → Nat} {b : Nat} (h : ∀ i, f i ≤ b) : ∀ X, sumN f X ≤ X * b
  | 0 => by simp [sumN]
  | X + 1 => by have := sumN_max h X; have := h X; simp only [sumN]; rw [Nat.succ_mul]; omega
theorem filt_le {α : Type} {p q : α → Bool} : ∀ {l : List α}, (∀ x ∈ l, p x = true → q x = true) → (l.filter p).length ≤ (l.filter q).length
  | [], _ => Nat.le_refl _
  | x :: l, h => by
    have ih := filt_le (l := l) (fun y hy => h y (List.mem_cons_of_mem _ hy))
    have h1 := h x (List.mem_cons_self ..)
    rw [List.filter_cons, List.filter_cons]
    cases hp : p x
    · cases hq : q x <;> simp <;> omega
    · rw [hp] at h1; rw [h1 rfl]; simp; omega
theorem filt_lt {α : Type} {p q : α → Bool} {y : α} (hpy : p y = false) (hqy : q y = true) : ∀ {l : List α}, (∀ x ∈ l, p x = true → q x = true) → y ∈ l → (l.filter p).length < (l.filter q).length
  | x :: l, h, hy => by
    have hl := filt_le (l := l) (p := p) (q := q) (fun z hz => h z (List.mem_cons_of_mem _ hz))
    rw [List.filter_cons, List.filter_cons]
    by_cases e : y = x
    · subst e
      rw [hpy, hqy]
      simp
      omega
    · have hy' : y ∈ l := by
        rcases List.mem_cons.1 hy with h1 | h1
        · exact absurd h1 e
        · exact h1
      have ih := filt_lt hpy hqy (l := l) (fun z hz => h z (List.mem_cons_of_mem _ hz)) hy'
      have h1 := h x (List.mem_cons_self ..)
      cases hp : p x
      · cases hq : q x <;> simp <;> omega
      · rw [hp] at h1; rw [h1 rfl]; simp; omega
end
section
variable {ls : List ByteArray} {T : Nat → Option Ino} {K : Nat} {c : ByteArray × Bool} {n was : Nat} {xn xw : Ino}
theorem kyI_share (hn : T n = some xn) (hw : T was = some xw) (hne : was ≠ n) (m : Nat) : kyI ls (shareT T n was xn xw) m = if m = was ∧ xw.links = 1 then none else kyI ls T m := by
  unfold kyI shareT
  by_cases h1 : m = was
  · subst h1
    rw [upd_same]
    by_cases h2 : xw.links = 1
    · rw [if_pos h2, if_pos ⟨rfl, h2⟩]; rfl
    · rw [if_neg h2, if_neg (fun h => h2 h.2), hw]; rfl
  · rw [upd_other _ _ _ h1, if_neg (fun h => h1 h.1)]
    by_cases h2 : m = n
    · subst h2; rw [upd_same, hn]; rfl
    · rw [upd_other _ _ _ h2]
theorem fst_share (hn : T n = some xn) (hw : T was = some xw) (hlt : n < was) (hc : kyI ls T was = some c) (hf : fstI ls T K c = some n) (d : ByteArray × Bool) : fstI ls (shareT T n was xn xw) K d = fstI ls T K d := by
  have hne : was ≠ n := by omega
  obtain ⟨hnK, hnc, hnj⟩ := fst_iff.1 hf
  have hk : ∀ m, kyI ls (shareT T n was xn xw) m = some d → kyI ls T m = some d := fun m hm => by
    rw [kyI_share hn hw hne] at hm
    split at hm
    · cases hm
    · exact hm
  refine Option.ext fun m => ?_
  rw [fst_iff, fst_iff]
  constructor
  · rintro ⟨h1, h2, h3⟩
    refine ⟨h1, hk m h2, fun j hj hjd => ?_⟩
    have h4 := h3 j hj
    rw [kyI_share hn hw hne] at h4
    split at h4
    · rename_i h5
      obtain ⟨rfl, -⟩ := h5
      rw [hc] at hjd
      cases hjd
      refine h3 n (by omega) ?_
      rw [kyI_share hn hw hne, if_neg (fun h => hne h.1.symm)]
      exact hnc
    · exact h4 hjd
  · rintro ⟨h1, h2, h3⟩
    have hmw : m ≠ was := by
      rintro rfl
      rw [hc] at h2
      cases h2
      exact h3 n hlt hnc
    exact ⟨h1, by rw [kyI_share hn hw hne, if_neg (fun h => hmw h.1)]; exact h2, fun j hj hjd => h3 j hj (hk j hjd)⟩
theorem bad_share {D : Nat → Option Dt} {X k : Nat} {e : Dt} {q : ByteArray} (hn : T n = some xn) (hw : T was = some xw) (hlt : n < was) (hc : kyI ls T was = some c) (hf : fstI ls T K c = some n) (he : D k = some e) (hF : e.F q = some was) (hq : q ∈ e.fl) (hk : k < X) :
    badD ls (shareT T n was xn xw) K (updD D k (some (e.setE q n))) X < badD ls T K D X := by
  have hne : was ≠ n := by omega
  have hb : ∀ m, badN ls (shareT T n was xn xw) K m = true → badN ls T K m = true := fun m hm => by
    obtain ⟨d, i, h1, h2, h3⟩ := badN_true.1 hm
    rw [fst_share hn hw hlt hc hf] at h2
    rw [kyI_share hn hw hne] at h1
    split at h1
    · cases h1
    · exact badN_true.2 ⟨d, i, h1, h2, h3⟩
  have hg : badN ls (shareT T n was xn xw) K n = false := by
    cases h : badN ls (shareT T n was xn xw) K n with
    | false => rfl
    | true =>
      obtain ⟨d, i, h1, h2, h3⟩ := badN_true.1 (hb n h)
      rw [(fst_iff.1 hf).2.1] at h1
      cases h1
      rw [hf] at h2
      cases h2
      omega
  have hqb : badQ ls T K e q = true := by unfold badQ; rw [hF]; exact badN_true.2 ⟨c, n, hc, hf, hlt⟩
  have hqg : badQ ls (shareT T n was xn xw) K (e.setE q n) q = false := by
    unfold badQ
    have : (e.setE q n).F q = some n := by show setF e.F q n q = _; simp [setF]
    rw [this]; exact hg
  have hq2 : ∀ f r, badQ ls (shareT T n was xn xw) K f r = true → badQ ls T K f r = true := fun f r h => by
    unfold badQ at h ⊢
    cases hF : f.F r with
    | none => rw [hF] at h; exact h
    | some m => rw [hF] at h; exact hb m h
  have hq3 : ∀ r, badQ ls (shareT T n was xn xw) K (e.setE q n) r = true → badQ ls T K e r = true := fun r h => by
    by_cases hr : r = q
    · subst hr; exact hqb
    · have : (e.setE q n).F r = e.F r := by show setF e.F q n r = _; simp [setF, hr]
      refine hq2 e r ?_
      unfold badQ at h ⊢
      rw [this] at h
      exact h
  have hcl : cntB ls (shareT T n was xn xw) K (some (e.setE q n)) < cntB ls T K (some e) := filt_lt (l := e.fl) hqg hqb (fun r _ h => hq3 r h) hq
  refine sumN_lt (fun i => ?_) (k := k) ?_ X hk
  · by_cases hi : i = k
    · subst hi; simp only [updD_same, he]; exact Nat.le_of_lt hcl
    · simp only [updD_other _ _ _ hi]
      cases hD : D i with
      | none => exact Nat.le_refl _
      | some f => exact filt_le (fun r _ h => hq2 f r h)
  · simp only [updD_same, he]; exact hcl
theorem badD_max {D : Nat → Option Dt} (h : ∀ k e, D k = some e → e.fl.length ≤ 200) (X : Nat) : badD ls T K D X ≤ X * 200 := sumN_max (fun k => by
  unfold cntB
  cases hD : D k with
  | none => exact Nat.zero_le _
  | some e => exact Nat.le_trans (List.length_filter_le _ _) (h k e hD)) X
theorem badD_none {D : Nat → Option Dt} : ∀ {X : Nat}, badD ls T K D X = 0 → ∀ k e q n, k < X → D k = some e → q ∈ e.fl → e.F q = some n → badN ls T K n = false
  | X + 1, h, k, e, q, n, hk, he, hq, hF => by
    unfold badD at h
    simp only [sumN] at h
    by_cases hkX : k = X
    · subst hkX
      have h1 : cntB ls T K (some e) = 0 := by rw [he] at h; omega
      have h2 : (e.fl.filter fun q => badQ ls T K e q) = [] := List.eq_nil_of_length_eq_zero h1
      have h3 := List.filter_eq_nil_iff.1 h2 q hq
      unfold badQ at h3
      rw [hF] at h3
      simpa using h3
    · exact badD_none (X := X) (by unfold badD; omega) k e q n (by omega) he hq hF
end
/-- Each inode is a file's. -/
theorem refs_ex {D : Nat → Option Dt} {n : Nat} : ∀ {X : Nat}, 1 ≤ refsN D n X → ∃ k e q, k < X ∧ D k = some e ∧ q ∈ e.fl ∧ e.F q = some n
  | 0, h => by simp [refsN] at h
  | X + 1, h => by
    rw [refsN] at h
    by_cases h1 : 1 ≤ refsN D n X
    · obtain ⟨k, e, q, h2, h3⟩ := refs_ex h1
      exact ⟨k, e, q, by omega, h3⟩
    · have h2 : 1 ≤ cntE (D X) n := by omega
      unfold cntE at h2
      cases hD : D X with
      | none => rw [hD] at h2; simp at h2
      | some e =>
        rw [hD] at h2
        obtain ⟨q, hq⟩ := List.exists_mem_of_length_pos (show 0 < _ from h2)
        obtain ⟨h3, h4⟩ := List.mem_filter.1 hq
        exact ⟨X, e, q, by omega, hD, h3, by simpa using h4⟩
/-- Where each file is what it should be no two inodes are alike. -/
theorem apart_end {pc : Prop} {w : World} {L : Loc} {s : St} (h : DiAt pc w L s) {K : Nat} (hK : s.N ≤ K) (hb : ∀ k e q n, s.D k = some e → q ∈ e.fl → e.F q = some n → badN s.ls s.T K n = false) {i j : Nat} {c : ByteArray × Bool} (hij : i < j) (hi : kyI s.ls s.T i = some c) (hj : kyI s.ls s.T j = some c) : False := by
  have hTj : ∃ y, s.T j = some y := by
    unfold kyI at hj
    cases hT : s.T j with
    | none => rw [hT] at hj; cases hj
    | some y => exact ⟨y, rfl⟩
  obtain ⟨y, hy⟩ := hTj
  have h1 := h.lnk j
  rw [hy] at h1
  have h2 := (h.tb.ok j y hy).pos
  obtain ⟨k, e, q, -, he, hq, hF⟩ := refs_ex (D := s.D) (n := j) (X := s.nx) (by rw [← h1]; exact h2)
  have h3 := hb k e q j he hq hF
  have hjK : j < K := Nat.lt_of_lt_of_le (h.klt hy) hK
  obtain ⟨m, hm, hf⟩ := fst_some hi (Nat.lt_trans hij hjK)
  rw [badN_true.2 ⟨c, m, hj, hf, by omega⟩] at h3
  cases h3
/-- Links, each with its blocks. -/
def lbI (o : Option Ino) : Nat := match o with | some x => x.links * x.bl.length | none => 0
def lbT (T : Nat → Option Ino) : Nat → Nat
  | 0 => 0
  | K + 1 => lbT T K + lbI (T K)
theorem lbT_far (T : Nat → Option Ino) (k : Nat) (o : Option Ino) : ∀ K, K ≤ k → lbT (upd T k o) K = lbT T K
  | 0, _ => rfl
  | K + 1, h => by rw [lbT, lbT, lbT_far T k o K (by omega), upd_other _ _ _ (by omega)]
theorem lbT_upd (T : Nat → Option Ino) (k : Nat) (o : Option Ino) : ∀ K, k < K → lbT (upd T k o) K + lbI (T k) = lbT T K + lbI o
  | 0, h => by omega
  | K + 1, h => by
    rw [lbT, lbT]
    by_cases e : k = K
    · subst e
      rw [lbT_far T k o k (Nat.le_refl _), upd_same]
      omega
    · have := lbT_upd T k o K (by omega)
      rw [upd_other _ _ _ (by omega)]
      omega
theorem lb_share {T : Nat → Option Ino} {n w K : Nat} {xn xw : Ino} (hn : T n = some xn) (hw : T w = some xw) (hnw : n ≠ w) (hnK : n < K) (hwK : w < K) (hl : xn.bl.length = xw.bl.length) (hq : 1 ≤ xw.links) : lbT (shareT T n w xn xw) K = lbT T K := by
  unfold shareT
  have h1 := lbT_upd T n (some { xn with links := xn.links + 1 }) K hnK
  have h2 := lbT_upd (upd T n (some { xn with links := xn.links + 1 })) w (if xw.links = 1 then none else some { xw with links := xw.links - 1 }) K hwK
  rw [upd_other _ _ _ (fun e => hnw e.symm), hw] at h2
  rw [hn] at h1
  obtain ⟨b, hb⟩ : ∃ b, xw.links = b + 1 := ⟨xw.links - 1, by omega⟩
  have e1 : lbI (some { xn with links := xn.links + 1 }) = lbI (some xn) + xn.bl.length := by
    simp only [lbI]
    rw [Nat.add_mul, Nat.one_mul]
  have e2 : lbI (if xw.links = 1 then none else some { xw with links := xw.links - 1 }) + xw.bl.length = lbI (some xw) := by
    by_cases hb0 : b = 0
    · rw [if_pos (by omega)]
      simp [lbI, hb, hb0]
    · rw [if_neg (by omega)]
      simp only [lbI, hb, Nat.add_sub_cancel]
      rw [Nat.add_mul, Nat.one_mul]
  omega
theorem sav_lb {T : Nat → Option Ino} (hp : ∀ k x, T k = some x → 1 ≤ x.links) : ∀ K, savT T K + (flT T K).length = lbT T K
  | 0 => rfl
  | K + 1 => by
    have ih := sav_lb hp K
    rw [savT, lbT]
    cases hT : T K with
    | none => rw [flT_none hT]; simp only [savI, lbI]; omega
    | some x =>
      rw [flT_some hT, List.length_append]
      obtain ⟨b, hb⟩ : ∃ b, x.links = b + 1 := ⟨x.links - 1, by have := hp K x hT; omega⟩
      simp only [savI, lbI, hb, Nat.add_sub_cancel]
      rw [Nat.add_mul, Nat.one_mul]
      omega
/-- What is saved, and not free: the links' blocks, but for all blocks. -/
theorem sav_free {pc : Prop} {w : World} {L : Loc} {s : St} (h : DiM pc w L s) {K : Nat} (hK : s.N ≤ K) : savT s.T K + s.us.length = lbT s.T K + nfree s.us := by
  have h1 := sav_lb (fun k x hx => (h.tb.ok k x hx).pos) K
  have h2 := h.tb.flFree (K := K) (fun k hk => by
    cases hT : s.T k with
    | none => rfl
    | some x => have := h.klt hT; omega)
  omega
end Go.Proofs.YtoemahhpheobkaaGreatDoor
