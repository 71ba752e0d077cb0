/- Trees in memory: the blocks that they lie in; append as a step of a region. Condition: as stated. -/
import Derived.Test.YtbadnmfmncjdjaaGreatDoorTrL
import Derived.Deep.RegionLaw
namespace Go.Proofs.YtbadnmfmncjdjaaGreatDoor
open Go.RowKit

/-- append onto a slice that is owned, as one step of a region that draws. -/
theorem step_append_tr {P : Program} {ops : Array Oper} {o : Oper} {a : Act} {w : World} {K : Act → World → Prop} {Q : Exit → Act → World → Prop} {E : Prop} (hgd : o.guard = none) (s x : Operand) (t tx : TypeId)
    (ho : o.op = .call { callee := .builtin .append, args := #[s, x], argTypes := #[t, tx] })
    (F : Nat → Prop) (hF : ∀ g, w.heap.size ≤ g → F g) (e : TypeId) (i : TypeInfo) (z : Value) (size bytes : Nat) (ht : P.underlying t = some (.slice e)) (hi : P.info? e = some i) (hz : i.zero = some z)
    (hsize : i.size = size) (hby : i.bytes = bytes) (hzs : z.cells.size = size) (hsz : 0 < size)
    (v : Value) (n : Nat) (xs : List Value) (hv : a.eval s = v) (hown : Ow F w e size v n xs) (y : Value) (m : Nat) (news : List Value) (hy : a.eval x = y) (hs : Src P size tx y m news w)
    (h63 : n + m ≤ maxLen) (hbytes : (n + m) * bytes ≤ 140737488355328)
    (h : ∀ v' w', Ow F w' e size v' (n + m) (xs ++ news) → w.grownBy w' v.ownBlock → K (a.put o.dst v') w') :
    if Region.wanted o (yielded ops a.tmps) = true then Oper.wp P o a w K Q else E := by
  have hw : Region.wanted o (yielded ops a.tmps) = true := by simp [Region.wanted, hgd]
  rw [if_pos hw]
  obtain ⟨v', w', hr, h2, h3⟩ := run_append_ow (P := P) w F hF t tx o.type e i z size bytes ht hi hz hsize hby hzs hsz v n xs hown y m news hs h63 hbytes
  unfold Oper.wp execOp
  simp only [ho, resolve, invoke, builtin, Sem.run_bind, Sem.run_pure, Result.andThen_ok, List.map_toArray, List.map_cons, List.map_nil, hv, hy, hr]
  exact h v' w' h2 h3

theorem Ow.self {F : Nat → Prop} {w : World} {e : TypeId} {size : Nat} {v : Value} {n : Nat} {xs : List Value} (h : Ow F w e size v n xs) : Ow (fun g => v.ownBlock = some g) w e size v n xs := by
  refine ⟨h.1, ?_⟩
  rcases h.2 with hx | ⟨g, off, cap, cur, rfl, hb, rest⟩
  · exact .inl hx
  · exact .inr ⟨g, off, cap, cur, rfl, rfl, rest⟩

/-- One result, that lies in a cell. -/
theorem results_cell1 {fn : Func} {p : Tmp} {ty : TypeId} (h : fn.results = #[.cell p ty]) (tmps : Array Value) (P : Program) (w : World) :
    (results fn tmps).run P w = ((asAddr (tmps.getD p undef)).run P w).andThen fun a w₁ => (loadVar ty a).run P w₁ := by
  simp only [results, h]
  simp [Sem.run_bind, Result.andThen]

mutual
def Tr.In (F : Nat → Prop) : Lt → Prop
  | .mk _ _ _ v ks => (ks ≠ [] → ∀ b, v.ownBlock = some b → F b) ∧ InS F ks
def InS (F : Nat → Prop) : List (ByteArray × Lt) → Prop
  | [] => True
  | (_, t) :: r => Tr.In F t ∧ InS F r
end
theorem inS_iff {F : Nat → Prop} : ∀ {ks : List (ByteArray × Lt)}, InS F ks ↔ ∀ x ∈ ks, Tr.In F x.2
  | [] => by simp [InS]
  | (n, t) :: r => by rw [InS, inS_iff]; simp
mutual
theorem in_mono {F G : Nat → Prop} (h : ∀ b, F b → G b) : ∀ t : Lt, t.In F → t.In G
  | .mk _ _ _ _ ks => fun k => by rw [Tr.In] at k ⊢; exact ⟨fun hn b hb => h b (k.1 hn b hb), inS_mono h ks k.2⟩
theorem inS_mono {F G : Nat → Prop} (h : ∀ b, F b → G b) : ∀ ks : List (ByteArray × Lt), InS F ks → InS G ks
  | [] => fun _ => by rw [InS]; trivial
  | (n, t) :: r => fun k => by rw [InS] at k ⊢; exact ⟨in_mono h t k.1, inS_mono h r k.2⟩
end
theorem sl_lt {w : World} {v : Value} {cs : List Value} {n size : Nat} (h : Sl w v cs n size) (h0 : 0 < n) : ∀ b, v.ownBlock = some b → b < w.heap.size := by
  obtain ⟨a, cap, rfl, _, _, _, h3⟩ := h
  intro b hb
  rcases h3 with h3 | ⟨b', off, rfl, hl, _⟩
  · omega
  · simp [Value.ownBlock] at hb; omega
theorem sl_fr0 {w w' : World} {S : Nat → Prop} (hf : Fr S w w') {v : Value} (ks : List (ByteArray × Lt)) (h : Sl w v (kcells ks) ks.length 5) (hk : ks ≠ [] → ∀ b, v.ownBlock = some b → ¬ S b) : Sl w' v (kcells ks) ks.length 5 := by
  cases ks with
  | nil =>
    obtain ⟨a, cap, rfl, h1, h2, h3, _⟩ := h
    exact ⟨a, cap, rfl, h1, h2, h3, .inl rfl⟩
  | cons x r => exact h.fr hf (hk (by simp))
mutual
theorem ok_in {w : World} : ∀ t : Lt, t.Ok w → t.In (fun b => b < w.heap.size)
  | .mk _ _ _ _ ks => fun h => by
    rw [Tr.Ok] at h; rw [Tr.In]
    refine ⟨fun hn => sl_lt h.1 ?_, oks_in ks h.2.2⟩
    cases ks with
    | nil => exact absurd rfl hn
    | cons x r => simp
theorem oks_in {w : World} : ∀ ks : List (ByteArray × Lt), Oks w ks → InS (fun b => b < w.heap.size) ks
  | [] => fun _ => by rw [InS]; trivial
  | (n, t) :: r => fun h => by rw [Oks] at h; rw [InS]; exact ⟨ok_in t h.1, oks_in r h.2⟩
end
theorem Tr.In.kid {F : Nat → Prop} {t : Lt} (h : t.In F) {x : ByteArray × Lt} (hx : x ∈ t.kids) : x.2.In F := by
  cases t; rw [Tr.In] at h; exact inS_iff.1 h.2 x hx
theorem Tr.In.get {F : Nat → Prop} {t : Lt} (h : t.In F) {i : Nat} (hi : i < t.kids.length) : t.kids[i].2.In F := h.kid (List.getElem_mem hi)
mutual
theorem ok_fr {w w' : World} {S : Nat → Prop} (hf : Fr S w w') : ∀ t : Lt, t.Ok w → t.In (fun b => ¬ S b) → t.Ok w'
  | .mk _ _ _ _ ks => fun h k => by rw [Tr.Ok] at h ⊢; rw [Tr.In] at k; exact ⟨sl_fr0 hf ks h.1 k.1, h.2.1, oks_fr hf ks h.2.2 k.2⟩
theorem oks_fr {w w' : World} {S : Nat → Prop} (hf : Fr S w w') : ∀ ks : List (ByteArray × Lt), Oks w ks → InS (fun b => ¬ S b) ks → Oks w' ks
  | [] => fun _ _ => by rw [Oks]; trivial
  | (n, t) :: r => fun h k => by rw [Oks] at h ⊢; rw [InS] at k; exact ⟨ok_fr hf t h.1 k.1, oks_fr hf r h.2 k.2⟩
end
theorem one_kcells (l : List (ByteArray × Lt)) (w : World) (h : Oks w l) : ∀ u ∈ kcells l, u.oneCell' = true := by
  intro u hu
  unfold kcells at hu
  obtain ⟨x, hx, hu⟩ := List.mem_flatMap.1 hu
  obtain ⟨a, cap, hv⟩ := (oks_iff.1 h x hx).shape
  simp only [ncells, List.mem_cons, List.not_mem_nil, or_false] at hu
  rcases hu with rfl | rfl | rfl | rfl | rfl
  · rfl
  · rfl
  · rfl
  · rfl
  · rw [hv]; rfl
end Go.Proofs.YtbadnmfmncjdjaaGreatDoor
