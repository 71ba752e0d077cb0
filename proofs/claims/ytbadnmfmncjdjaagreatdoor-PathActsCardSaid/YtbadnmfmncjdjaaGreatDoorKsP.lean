/- Rows whose elements are of several cells: copy, clear, append in place, append of a make, as laws for the walk. Condition: as stated. -/
import Derived.Test.YtbadnmfmncjdjaaGreatDoorTrA
import Derived.Laws.CopyOwn
import Derived.Lib.AppendZerosOnto
import Derived.Lib.Overlaps
import Derived.Lib.SliceRun
namespace Go.Proofs.YtbadnmfmncjdjaaGreatDoor
open Go.RowKit

theorem splice_drop {α : Type} (L : List α) (off p : Nat) (cs : List α) (h : off + p ≤ L.length) : (splice L (off + p) cs).drop off = splice (L.drop off) p cs := by
  unfold splice
  rw [List.drop_append_of_le_length (by rw [List.length_take]; omega), List.drop_take, List.drop_drop]
  congr 2
  · omega
  · rw [Nat.add_assoc]
/-- What stands at a place of a row behind a splice. -/
theorem splice_take {α : Type} (L : List α) (p : Nat) (cs : List α) (h : p + cs.length ≤ L.length) : (splice L p cs).take (p + cs.length) = L.take p ++ cs := by
  unfold splice
  rw [← List.append_assoc, List.take_append_of_le_length (by rw [List.length_append, List.length_take]; omega), List.take_of_length_le (by rw [List.length_append, List.length_take]; omega)]
theorem splice_before {α : Type} (L : List α) (p q : Nat) (cs : List α) (h : q ≤ p) (hp : p ≤ L.length) : (splice L p cs).take q = L.take q := by
  unfold splice
  rw [List.take_append_of_le_length (by rw [List.length_take]; omega), List.take_take]
  congr 1; omega

/-- A row in a block, from a place on. -/
def Rw (w : World) (b off : Nat) (T : TypeId) (room : Nat) (xs : List Value) : Prop := ∃ dst, Blk w b dst T ∧ off + room ≤ dst.length ∧ xs.length ≤ room ∧ (dst.drop off).take xs.length = xs
section
variable {w : World} {b off room : Nat} {T : TypeId} {xs : List Value}
theorem Rw.cell (h : Rw w b off T room xs) {j : Nat} {v : Value} (hj : xs[j]? = some v) : w.cell? ⟨b, off + j, none⟩ = some v := by
  obtain ⟨dst, h1, h2, h3, h4⟩ := h
  refine h1.cell ?_
  have := (List.getElem?_eq_some_iff.1 hj).1
  rw [← List.getElem?_drop, ← hj, ← h4, List.getElem?_take, if_pos this]
theorem Rw.lt (h : Rw w b off T room xs) : b < w.heap.size := by obtain ⟨dst, h1, -⟩ := h; exact h1.lt
theorem Rw.frozen (h : Rw w b off T room xs) (i : Nat) : w.frozen? ⟨b, i, none⟩ = false := by obtain ⟨dst, h1, -⟩ := h; exact h1.frozen i
theorem Rw.has (h : Rw w b off T room xs) {j : Nat} (hj : j < room) : (w.cell? ⟨b, off + j, none⟩).isSome = true := by
  obtain ⟨dst, h1, h2, h3, h4⟩ := h
  rw [h1.cell (List.getElem?_eq_getElem (by omega))]; rfl
theorem Rw.fr {w' : World} {S : Nat → Prop} (h : Rw w b off T room xs) (hf : Fr S w w') (hn : ¬ S b) : Rw w' b off T room xs := by
  obtain ⟨dst, h1, h2, h3, h4⟩ := h
  exact ⟨dst, h1.fr hf hn, h2, h3, h4⟩
theorem Rw.ob {w' : World} (h : Rw w b off T room xs) (hf : Below w.heap.size w w') : Rw w' b off T room xs := h.fr (S := fun _ => False) (Fr.ob hf) (fun x => x)
theorem Rw.drewW (h : Rw w b off T room xs) : Rw w.drew b off T room xs := h
/-- Cells written into a row, inside it or right behind it. -/
theorem Rw.spl0 (h : Rw w b off T room xs) {p : Nat} {cs : List Value} (hp : p ≤ xs.length) (hc : p + cs.length ≤ room) {w' : World} (hw : ∀ dst, Blk w b dst T → off + p + cs.length ≤ dst.length → Blk w' b (Go.splice dst (off + p) cs) T) :
    Rw w' b off T room (xs.take p ++ cs ++ xs.drop (p + cs.length)) := by
  obtain ⟨dst, h1, h2, h3, h4⟩ := h
  refine ⟨Go.splice dst (off + p) cs, hw dst h1 (by omega), by rw [length_splice _ _ _ (by omega)]; exact h2, by simp; omega, ?_⟩
  rw [splice_drop _ _ _ _ (by omega)]
  obtain ⟨D, hD⟩ : ∃ D, dst.drop off = D := ⟨_, rfl⟩
  have hDl : room ≤ D.length := by rw [← hD, List.length_drop]; omega
  rw [hD] at h4 ⊢
  have e1 : D.take p = xs.take p := by rw [← h4, List.take_take]; congr 1; omega
  by_cases hq : xs.length ≤ p + cs.length
  · have e2 : xs.drop (p + cs.length) = [] := List.drop_of_length_le hq
    rw [e2, List.append_nil, List.length_append, List.length_take, Nat.min_eq_left hp, splice_take _ _ _ (by omega), e1]
  · have e3 : xs.length = p + cs.length + (xs.length - (p + cs.length)) := by omega
    have e4 : (xs.take p ++ cs ++ xs.drop (p + cs.length)).length = xs.length := by simp; omega
    rw [e4]
    have e5 : Go.splice D p cs = D.take p ++ cs ++ D.drop (p + cs.length) := by simp [Go.splice]
    rw [e5, List.take_append, List.take_of_length_le (by rw [List.length_append, List.length_take]; omega), e1]
    congr 1
    rw [List.length_append, List.length_take, Nat.min_eq_left hp]
    conv => rhs; rw [← h4, List.drop_take]
theorem Rw.spl (h : Rw w b off T room xs) {p : Nat} {cs : List Value} (hp : p ≤ xs.length) (hc : p + cs.length ≤ room) {w' : World} (hw : ∀ dst, Blk w b dst T → off + p + cs.length ≤ dst.length → Blk w' b (Go.splice dst (off + p) cs) T) :
    Rw w' b off T room (Go.splice xs p cs) := by
  have := h.spl0 hp hc hw
  unfold Go.splice; rw [← List.append_assoc]; exact this
theorem Rw.take (h : Rw w b off T room xs) (k : Nat) : Rw w b off T room (xs.take k) := by
  obtain ⟨dst, h1, h2, h3, h4⟩ := h
  refine ⟨dst, h1, h2, by rw [List.length_take]; omega, ?_⟩
  conv => rhs; rw [← h4]
  rw [List.take_take, List.length_take]
theorem Rw.less (h : Rw w b off T room xs) {r : Nat} (hr : r ≤ room) (hx : xs.length ≤ r) : Rw w b off T r xs := by
  obtain ⟨dst, h1, h2, h3, h4⟩ := h
  exact ⟨dst, h1, by omega, hx, h4⟩
theorem Ow.rw {F : Nat → Prop} {size n cap : Nat} (h : Ow F w T size (.slice (some ⟨b, off, none⟩) n cap) n xs) : Rw w b off T (cap * size) xs ∧ n ≤ cap ∧ cap ≤ maxLen ∧ F b := by
  rcases h.2 with ⟨he, hn⟩ | ⟨g, o, cap', cur, he, hb, hg, hnc, hm, hsz, ht⟩
  · cases he
  · simp only [Value.slice.injEq, Option.some.injEq, Addr.mk.injEq] at he
    obtain ⟨⟨rfl, rfl, _⟩, _, rfl⟩ := he
    refine ⟨?_, hnc, hm, hb⟩
    refine ⟨cur.toList, ?_, ?_, ?_, ?_⟩
    · unfold Blk; simpa using hg
    · simpa using hsz
    · rw [h.1]; exact Nat.mul_le_mul_right _ hnc
    · rw [h.1]; exact ht
theorem Rw.ow {F : Nat → Prop} {size n cap : Nat} (h : Rw w b off T (cap * size) xs) (hl : xs.length = n * size) (hn : n ≤ cap) (hc : cap ≤ maxLen) (hF : F b) : Ow F w T size (.slice (some ⟨b, off, none⟩) n cap) n xs := by
  obtain ⟨dst, h1, h2, h3, h4⟩ := h
  refine ⟨hl, .inr ⟨b, off, cap, dst.toArray, rfl, hF, h1, hn, hc, by simpa using h2, ?_⟩⟩
  rw [← hl]; exact h4
end

theorem blk_setCells {w : World} {b : Nat} {dst : List Value} {T : TypeId} (h : Blk w b dst T) (o : Nat) (cs : List Value) (hf : o + cs.length ≤ dst.length) : Blk (w.setCells b o cs) b (splice dst o cs) T := by
  obtain ⟨cur, h1, h2, h3⟩ := heap_setCells (g := b) (e := T) cs o w dst.toArray h (by simpa using hf)
  have : cur = (splice dst o cs).toArray := by
    apply Array.toList_inj.1
    rw [h3]; simp [splice]
  unfold Blk; rw [h1, this]
theorem fr_setCells (w : World) (b o : Nat) (cs : List Value) : Fr (fun x => x = b) w (w.setCells b o cs) := Fr.setCells (S := fun x => x = b) (a := w) (.inl rfl) cs o w (Fr.refl _ _)

section
variable {P : Program}
/-- copy, elements of k cells. -/
theorem run_copy_n (w : World) (dT sT ty elem : TypeId) (k b o dLen dCap : Nat) (ad : Addr) (sLen sCap : Nat) (cs : List Value) (m : Nat)
    (hu : P.underlying dT = some (.slice elem)) (hs : (P.info? elem).map (·.size) = some k) (hm : Nat.min sLen dLen = m) (hl : cs.length = m * k)
    (hsrc : ∀ j v, cs[j]? = some v → w.cell? (ad.add j) = some v) (hc : ∀ j, j < cs.length → (w.cell? ⟨b, o + j, none⟩).isSome = true) (hf : ∀ j, j < cs.length → w.frozen? ⟨b, o + j, none⟩ = false) (h1 : ∀ v ∈ cs, v.oneCell' = true) :
    (Builtin.copy_ #[dT, sT] ty #[.slice (some ⟨b, o, none⟩) dLen dCap, .slice (some ad) sLen sCap]).run P w = .ok (goInt m) (w.setCells b o cs) := by
  have hl2 := run_loadCells_list (P := P) w ad cs hsrc
  have hst := run_storeCells_cells (P := P) b o cs 0 w (by simpa using hc) (by simpa using hf) h1
  cases hq : P.info? elem with
  | none => simp [hq] at hs
  | some i =>
    have hi : i.size = k := by simpa [hq] using hs
    simp [Builtin.copy_, run_underlying hu, Builtin.lenOf, Builtin.firstCells, sizeOf, typeInfo, hq, hi, hm, ← hl, hl2, hst]

theorem wpList_copy_n {w : World} {ops : Array Oper} {rest : List Oper} {o : Oper} {a : Act} {Q : Exit → Act → World → Prop} (hgd : o.guard = none) (d s : Operand) (dT sT : TypeId)
    (ho : o.op = .call { callee := .builtin .copy, args := #[d, s], argTypes := #[dT, sT] }) (elem : TypeId) (k : Nat) (hu : P.underlying dT = some (.slice elem)) (hsz : (P.info? elem).map (·.size) = some k)
    (b o' dLen dCap : Nat) (ad : Addr) (sLen sCap : Nat) (hd : a.eval d = .slice (some ⟨b, o', none⟩) dLen dCap) (hs : a.eval s = .slice (some ad) sLen sCap)
    (cs : List Value) (m : Nat) (hm : Nat.min sLen dLen = m) (hl : cs.length = m * k) (hsrc : ∀ j v, cs[j]? = some v → w.cell? (ad.add j) = some v)
    (T : TypeId) (off p room : Nat) (xs : List Value) (hr : Rw w b off T room xs) (hop : o' = off + p) (hp : p ≤ xs.length) (hpc : p + cs.length ≤ room) (h1 : ∀ v ∈ cs, v.oneCell' = true)
    (h : ∀ w', Rw w' b off T room (splice xs p cs) → Fr (fun x => x = b) w w' → wpList P ops Q rest (a.put o.dst (goInt m)) w') : wpList P ops Q (o :: rest) a w :=
  wpList_plain hgd fun K hK => by
    subst hop
    have hrun := run_copy_n (P := P) w dT sT o.type elem k b (off + p) dLen dCap ad sLen sCap cs m hu hsz hm hl hsrc (fun j hj => by rw [Nat.add_assoc]; exact hr.has (by omega)) (fun j hj => hr.frozen _) h1
    have hw' : Rw (w.setCells b (off + p) cs) b off T room (splice xs p cs) := hr.spl hp hpc (fun dst hb hlen => blk_setCells hb _ _ hlen)
    unfold Oper.wp execOp
    simp only [ho, resolve, invoke, builtin, Sem.run_bind, Sem.run_pure, Result.andThen_ok, List.map_toArray, List.map_cons, List.map_nil, hd, hs, hrun]
    exact hK _ _ (h _ hw' (fr_setCells _ _ _ _))

theorem step_copy_n {ops : Array Oper} {o : Oper} {a : Act} {w : World} {K : Act → World → Prop} {Q : Exit → Act → World → Prop} {E : Prop} (hgd : o.guard = none) (d s : Operand) (dT sT : TypeId)
    (ho : o.op = .call { callee := .builtin .copy, args := #[d, s], argTypes := #[dT, sT] }) (elem : TypeId) (k : Nat) (hu : P.underlying dT = some (.slice elem)) (hsz : (P.info? elem).map (·.size) = some k)
    (b o' dLen dCap : Nat) (ad : Addr) (sLen sCap : Nat) (hd : a.eval d = .slice (some ⟨b, o', none⟩) dLen dCap) (hs : a.eval s = .slice (some ad) sLen sCap)
    (cs : List Value) (m : Nat) (hm : Nat.min sLen dLen = m) (hl : cs.length = m * k) (hsrc : ∀ j v, cs[j]? = some v → w.cell? (ad.add j) = some v)
    (T : TypeId) (off p room : Nat) (xs : List Value) (hr : Rw w b off T room xs) (hop : o' = off + p) (hp : p ≤ xs.length) (hpc : p + cs.length ≤ room) (h1 : ∀ v ∈ cs, v.oneCell' = true)
    (h : ∀ w', Rw w' b off T room (splice xs p cs) → Fr (fun x => x = b) w w' → K (a.put o.dst (goInt m)) w') :
    if Region.wanted o (yielded ops a.tmps) = true then Oper.wp P o a w K Q else E := by
  have hw : Region.wanted o (yielded ops a.tmps) = true := by simp [Region.wanted, hgd]
  rw [if_pos hw]
  subst hop
  have hrun := run_copy_n (P := P) w dT sT o.type elem k b (off + p) dLen dCap ad sLen sCap cs m hu hsz hm hl hsrc (fun j hj => by rw [Nat.add_assoc]; exact hr.has (by omega)) (fun j hj => hr.frozen _) h1
  have hw' : Rw (w.setCells b (off + p) cs) b off T room (splice xs p cs) := hr.spl hp hpc (fun dst hb hlen => blk_setCells hb _ _ hlen)
  unfold Oper.wp execOp
  simp only [ho, resolve, invoke, builtin, Sem.run_bind, Sem.run_pure, Result.andThen_ok, List.map_toArray, List.map_cons, List.map_nil, hd, hs, hrun]
  exact h _ hw' (fr_setCells _ _ _ _)

/-- append in place, as a step of a region that draws. -/
theorem step_append_room {ops : Array Oper} {o : Oper} {a : Act} {w : World} {K : Act → World → Prop} {Q : Exit → Act → World → Prop} {E : Prop} (hgd : o.guard = none) (s x : Operand) (t tx : TypeId)
    (ho : o.op = .call { callee := .builtin .append, args := #[s, x], argTypes := #[t, tx] }) (e : TypeId) (i : TypeInfo) (ht : P.underlying t = some (.slice e)) (hi : P.info? e = some i) (k : Nat) (hk : i.size = k)
    (b o' n cap : Nat) (hv : a.eval s = .slice (some ⟨b, o', none⟩) n cap) (y : Value) (m : Nat) (news : List Value) (hy : a.eval x = y) (hs : Src P k tx y m news w) (hroom : n + m ≤ cap)
    (T : TypeId) (room : Nat) (xs : List Value) (hr : Rw w b o' T room xs) (hp : n * k ≤ xs.length) (hpc : n * k + news.length ≤ room)
    (h : ∀ w', Rw w' b o' T room (splice xs (n * k) news) → Fr (fun x => x = b) w w' → K (a.put o.dst (.slice (some ⟨b, o', none⟩) (n + m) cap)) w') :
    if Region.wanted o (yielded ops a.tmps) = true then Oper.wp P o a w K Q else E := by
  have hw : Region.wanted o (yielded ops a.tmps) = true := by simp [Region.wanted, hgd]
  rw [if_pos hw]
  subst hk
  have hrun := run_append_room_src (P := P) w t tx o.type e i ht hi b o' n cap y m news hs hroom (fun j hj => by rw [Nat.add_assoc]; exact hr.has (by omega)) (fun j hj => hr.frozen _)
  have hw' : Rw (w.setCells b (o' + n * i.size) news) b o' T room (splice xs (n * i.size) news) := hr.spl hp hpc (fun dst hb hlen => blk_setCells hb _ _ hlen)
  unfold Oper.wp execOp
  simp only [ho, resolve, invoke, builtin, Sem.run_bind, Sem.run_pure, Result.andThen_ok, List.map_toArray, List.map_cons, List.map_nil, hv, hy, hrun]
  exact h _ hw' (fr_setCells _ _ _ _)

/-- clear, elements of k cells. -/
theorem wpList_clear_n {w : World} {ops : Array Oper} {rest : List Oper} {o : Oper} {a : Act} {Q : Exit → Act → World → Prop} (hgd : o.guard = none) (s : Operand) (t e : TypeId) (z : Value) (i : TypeInfo)
    (ho : o.op = .call { callee := .builtin .clear, args := #[s], argTypes := #[t] }) (ht : P.underlying t = some (.slice e)) (hi : P.info? e = some i) (hz : i.zero = some z) (h1z : ∀ v ∈ z.cells, v.oneCell' = true)
    (b o' n c : Nat) (hs : a.eval s = .slice (some ⟨b, o', none⟩) n c) (hn : 0 < n)
    (T : TypeId) (off p room : Nat) (xs : List Value) (hr : Rw w b off T room xs) (hop : o' = off + p) (hp : p ≤ xs.length) (hpc : p + n * z.cells.size ≤ room)
    (h : ∀ w', Rw w' b off T room (xs.take p) → Fr (fun x => x = b) w w' → wpList P ops Q rest (a.put o.dst (.tuple #[])) w') : wpList P ops Q (o :: rest) a w :=
  wpList_plain hgd fun K hK => by
    subst hop
    have hzl : ((Builtin.zeroCells z.cells n).toList).length = n * z.cells.size := by simp [Builtin.zeroCells]
    have hst := run_storeCells_cells (P := P) b (off + p) (Builtin.zeroCells z.cells n).toList 0 w (fun j hj => by rw [Nat.add_zero, Nat.add_assoc]; exact hr.has (by omega)) (fun j hj => hr.frozen _) (fun v hv => by
      simp only [Builtin.zeroCells, Array.toList_map, List.mem_map] at hv
      obtain ⟨q, hq, rfl⟩ := hv
      have hq2 : q < n * z.cells.size := by simpa using hq
      have h0 : 0 < z.cells.size := by
        rcases Nat.eq_zero_or_pos z.cells.size with h | h
        · rw [h] at hq2; omega
        · exact h
      rw [getElem!_pos z.cells _ (Nat.mod_lt _ h0)]
      exact h1z _ (Array.getElem_mem _))
    have hw' : Rw (w.setCells b (off + p) (Builtin.zeroCells z.cells n).toList) b off T room (xs.take p) := by
      have := (hr.spl (cs := (Builtin.zeroCells z.cells n).toList) hp (by omega) (fun dst hb hlen => blk_setCells hb _ _ hlen)).take p
      have e : (splice xs p (Builtin.zeroCells z.cells n).toList).take p = xs.take p := by
        unfold splice
        rw [List.take_append_of_le_length (by rw [List.length_take]; omega), List.take_take, Nat.min_self]
      rw [e] at this
      exact this
    obtain ⟨m, rfl⟩ : ∃ m, n = m + 1 := ⟨n - 1, by omega⟩
    have hrun : (Builtin.clear_ #[t] o.type #[.slice (some ⟨b, off + p, none⟩) (m + 1) c]).run P w = .ok (.tuple #[]) (w.setCells b (off + p) (Builtin.zeroCells z.cells (m + 1)).toList) := by
      simp only [Nat.add_zero] at hst
      simp [Builtin.clear_, run_underlying ht, zeroValue, typeInfo, hi, hz, hst]
    unfold Oper.wp execOp
    simp only [ho, resolve, invoke, builtin, Sem.run_bind, Sem.run_pure, Result.andThen_ok, List.map_toArray, List.map_cons, List.map_nil, hs, hrun]
    exact hK _ _ (h _ hw' (fr_setCells _ _ _ _))

/-- append of a make where there is no room: a new row. -/
theorem wpList_append_zeros {w : World} {ops : Array Oper} {rest : List Oper} {o : Oper} {a : Act} {Q : Exit → Act → World → Prop} (hgd : o.guard = none) (s x : Operand) (t tn : TypeId)
    (ho : o.op = .call { callee := .builtin .append, args := #[s, x], argTypes := #[t, tn] }) (e : TypeId) (i : TypeInfo) (z : Value) (kq kn : IntKind) (ht : P.underlying t = some (.slice e)) (htn : P.underlying tn = some (.int kn)) (hi : P.info? e = some i) (hz : i.zero = some z)
    (k bytes : Nat) (hk : i.size = k) (hby : i.bytes = bytes) (hzs : z.cells.size = k) (hk0 : 0 < k)
    (b off n cap m : Nat) (hv : a.eval s = .slice (some ⟨b, off, none⟩) n cap) (hx : a.eval x = .int kq (m : Int)) (xs : List Value) (room : Nat) (T : TypeId) (hr : Rw w b off T room xs) (hl : xs.length = n * k)
    (h0 : 0 < m) (hg : cap < n + m) (h63 : n + m ≤ maxLen) (hbytes : (n + m) * bytes ≤ 140737488355328)
    (h : ∀ w' cap', Rw w' w.heap.size 0 e (cap' * k) (xs ++ (Builtin.zeroCells z.cells m).toList) → n + m ≤ cap' → cap' ≤ maxLen → Below w.heap.size w w' → w'.heap.size = w.heap.size + 1 →
      wpList P ops Q rest (a.put o.dst (.slice (some ⟨w.heap.size, 0, none⟩) (n + m) cap')) w') : wpList P ops Q (o :: rest) a w :=
  wpList_plain hgd fun K hK => by
    subst hk hby
    have hrun := Lib.run_append_grow_zeros (P := P) w t tn o.type e i z kq kn ht htn hi hz (some ⟨b, off, none⟩) n cap xs
      (run_firstCells_some w.drew i.size n ⟨b, off, none⟩ n cap xs hl (fun j u hu => by
        have ea : (⟨b, off, none⟩ : Addr).add j = ⟨b, off + j, none⟩ := by unfold Addr.add; split <;> simp_all
        rw [ea]
        exact hr.drewW.cell hu)) m h0 hk0 hg (by unfold maxLen at h63; omega) (by
          have : m * i.bytes ≤ (n + m) * i.bytes := Nat.mul_le_mul_right _ (by omega)
          omega) (growslice_fits (by omega) hbytes)
    have hge := grownCap_ge w (n + m) cap e
    have hcm := grownCap_le_maxLen w (n + m) cap e h63
    generalize grownCap w (n + m) cap e = G at *
    have hzl : ((Builtin.zeroCells z.cells m).toList).length = m * z.cells.size := by simp [Builtin.zeroCells]
    have hsz : xs.length + m * i.size + (G - (n + m)) * i.size = G * i.size := by
      rw [hl, ← Nat.add_mul, ← Nat.add_mul]; congr 1; omega
    have hw' : Rw (w.drew.alloc (.cells (xs.toArray ++ Builtin.zeroCells z.cells m ++ Builtin.zeroCells z.cells (G - (n + m))) e)) w.heap.size 0 e (G * i.size) (xs ++ (Builtin.zeroCells z.cells m).toList) := by
      refine ⟨(xs.toArray ++ Builtin.zeroCells z.cells m ++ Builtin.zeroCells z.cells (G - (n + m))).toList, ?_, ?_, ?_, ?_⟩
      · unfold Blk; rw [Array.toArray_toList]; exact heap_alloc_new w.drew _
      · have e3 : (xs.toArray ++ Builtin.zeroCells z.cells m ++ Builtin.zeroCells z.cells (G - (n + m))).toList.length = G * i.size := by
          rw [← hsz]
          simp [Builtin.zeroCells, hzs]
          omega
        omega
      · rw [List.length_append, hzl, hzs]; omega
      · simp only [Array.toList_append, List.drop_zero]
        rw [List.take_append_of_le_length (by simp), List.take_of_length_le (by simp)]
    unfold Oper.wp execOp
    simp only [ho, resolve, invoke, builtin, Sem.run_bind, Sem.run_pure, Result.andThen_ok, List.map_toArray, List.map_cons, List.map_nil, hv, hx, hrun]
    exact hK _ _ (h _ G hw' hge hcm ((Below.refl _ _).drew.alloc (Nat.le_refl _) _) (by simp))
end
end Go.Proofs.YtbadnmfmncjdjaaGreatDoor
