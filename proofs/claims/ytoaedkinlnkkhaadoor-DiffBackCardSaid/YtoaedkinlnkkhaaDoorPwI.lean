/- Rows whose elements are of several cells: copy, clear, append in place, append of a make, as laws for the walk. Condition: as stated. · The contracts of slices.Insert and slices.Delete over kids. Condition: the row is owned, and has few elements. -/
import Derived.Test.YtoaedkinlnkkhaaDoorTrO
import Derived.Laws.CopyOwn
import Derived.Lib.AppendZerosOnto
import Derived.Lib.Overlaps
import Derived.Lib.SliceRun
namespace Go.Proofs.YtoaedkinlnkkhaaDoor
open Go.RowKit

theorem splice_drop {α : Type} (L : List α) (off p : Nat) (cs : List α) (h : off + p ≤ L.length) : (splice L (off + p) cs).drop off = splice (L.drop off) p cs := by
  unfold splice
  rw [List.drop_append_of_le_length (by rw [List.length_take]; omega), List.drop_take, List.drop_drop]
  congr 2
  · omega
  · rw [Nat.add_assoc]
/-- What stands at a place of a row behind a splice. -/
theorem splice_take {α : Type} (L : List α) (p : Nat) (cs : List α) (h : p + cs.length ≤ L.length) : (splice L p cs).take (p + cs.length) = L.take p ++ cs := by
  unfold splice
  rw [← List.append_assoc, List.take_append_of_le_length (by rw [List.length_append, List.length_take]; omega), List.take_of_length_le (by rw [List.length_append, List.length_take]; omega)]
theorem splice_before {α : Type} (L : List α) (p q : Nat) (cs : List α) (h : q ≤ p) (hp : p ≤ L.length) : (splice L p cs).take q = L.take q := by
  unfold splice
  rw [List.take_append_of_le_length (by rw [List.length_take]; omega), List.take_take]
  congr 1; omega

/-- A row in a block, from a place on. -/
def Rw (w : World) (b off : Nat) (T : TypeId) (room : Nat) (xs : List Value) : Prop := ∃ dst, Blk w b dst T ∧ off + room ≤ dst.length ∧ xs.length ≤ room ∧ (dst.drop off).take xs.length = xs
section
variable {w : World} {b off room : Nat} {T : TypeId} {xs : List Value}
theorem Rw.cell (h : Rw w b off T room xs) {j : Nat} {v : Value} (hj : xs[j]? = some v) : w.cell? ⟨b, off + j, none⟩ = some v := by
  obtain ⟨dst, h1, h2, h3, h4⟩ := h
  refine h1.cell ?_
  have := (List.getElem?_eq_some_iff.1 hj).1
  rw [← List.getElem?_drop, ← hj, ← h4, List.getElem?_take, if_pos this]
theorem Rw.lt (h : Rw w b off T room xs) : b < w.heap.size := by obtain ⟨dst, h1, -⟩ := h; exact h1.lt
theorem Rw.frozen (h : Rw w b off T room xs) (i : Nat) : w.frozen? ⟨b, i, none⟩ = false := by obtain ⟨dst, h1, -⟩ := h; exact h1.frozen i
theorem Rw.has (h : Rw w b off T room xs) {j : Nat} (hj : j < room) : (w.cell? ⟨b, off + j, none⟩).isSome = true := by
  obtain ⟨dst, h1, h2, h3, h4⟩ := h
  rw [h1.cell (List.getElem?_eq_getElem (by omega))]; rfl
theorem Rw.fr {w' : World} {S : Nat → Prop} (h : Rw w b off T room xs) (hf : Fr S w w') (hn : ¬ S b) : Rw w' b off T room xs := by
  obtain ⟨dst, h1, h2, h3, h4⟩ := h
  exact ⟨dst, h1.fr hf hn, h2, h3, h4⟩
theorem Rw.ob {w' : World} (h : Rw w b off T room xs) (hf : Below w.heap.size w w') : Rw w' b off T room xs := h.fr (S := fun _ => False) (Fr.ob hf) (fun x => x)
theorem Rw.drewW (h : Rw w b off T room xs) : Rw w.drew b off T room xs := h
/-- Cells written into a row, inside it or right behind it. -/
theorem Rw.spl0 (h : Rw w b off T room xs) {p : Nat} {cs : List Value} (hp : p ≤ xs.length) (hc : p + cs.length ≤ room) {w' : World} (hw : ∀ dst, Blk w b dst T → off + p + cs.length ≤ dst.length → Blk w' b (Go.splice dst (off + p) cs) T) :
    Rw w' b off T room (xs.take p ++ cs ++ xs.drop (p + cs.length)) := by
  obtain ⟨dst, h1, h2, h3, h4⟩ := h
  refine ⟨Go.splice dst (off + p) cs, hw dst h1 (by omega), by rw [length_splice _ _ _ (by omega)]; exact h2, by simp; omega, ?_⟩
  rw [splice_drop _ _ _ _ (by omega)]
  obtain ⟨D, hD⟩ : ∃ D, dst.drop off = D := ⟨_, rfl⟩
  have hDl : room ≤ D.length := by rw [← hD, List.length_drop]; omega
  rw [hD] at h4 ⊢
  have e1 : D.take p = xs.take p := by rw [← h4, List.take_take]; congr 1; omega
  by_cases hq : xs.length ≤ p + cs.length
  · have e2 : xs.drop (p + cs.length) = [] := List.drop_of_length_le hq
    rw [e2, List.append_nil, List.length_append, List.length_take, Nat.min_eq_left hp, splice_take _ _ _ (by omega), e1]
  · have e3 : xs.length = p + cs.length + (xs.length - (p + cs.length)) := by omega
    have e4 : (xs.take p ++ cs ++ xs.drop (p + cs.length)).length = xs.length := by simp; omega
    rw [e4]
    have e5 : Go.splice D p cs = D.take p ++ cs ++ D.drop (p + cs.length) := by simp [Go.splice]
    rw [e5, List.take_append, List.take_of_length_le (by rw [List.length_append, List.length_take]; omega), e1]
    congr 1
    rw [List.length_append, List.length_take, Nat.min_eq_left hp]
    conv => rhs; rw [← h4, List.drop_take]
theorem Rw.spl (h : Rw w b off T room xs) {p : Nat} {cs : List Value} (hp : p ≤ xs.length) (hc : p + cs.length ≤ room) {w' : World} (hw : ∀ dst, Blk w b dst T → off + p + cs.length ≤ dst.length → Blk w' b (Go.splice dst (off + p) cs) T) :
    Rw w' b off T room (Go.splice xs p cs) := by
  have := h.spl0 hp hc hw
  unfold Go.splice; rw [← List.append_assoc]; exact this
theorem Rw.take (h : Rw w b off T room xs) (k : Nat) : Rw w b off T room (xs.take k) := by
  obtain ⟨dst, h1, h2, h3, h4⟩ := h
  refine ⟨dst, h1, h2, by rw [List.length_take]; omega, ?_⟩
  conv => rhs; rw [← h4]
  rw [List.take_take, List.length_take]
theorem Rw.less (h : Rw w b off T room xs) {r : Nat} (hr : r ≤ room) (hx : xs.length ≤ r) : Rw w b off T r xs := by
  obtain ⟨dst, h1, h2, h3, h4⟩ := h
  exact ⟨dst, h1, by omega, hx, h4⟩
theorem Ow.rw {F : Nat → Prop} {size n cap : Nat} (h : Ow F w T size (.slice (some ⟨b, off, none⟩) n cap) n xs) : Rw w b off T (cap * size) xs ∧ n ≤ cap ∧ cap ≤ maxLen ∧ F b := by
  rcases h.2 with ⟨he, hn⟩ | ⟨g, o, cap', cur, he, hb, hg, hnc, hm, hsz, ht⟩
  · cases he
  · simp only [Value.slice.injEq, Option.some.injEq, Addr.mk.injEq] at he
    obtain ⟨⟨rfl, rfl, _⟩, _, rfl⟩ := he
    refine ⟨?_, hnc, hm, hb⟩
    refine ⟨cur.toList, ?_, ?_, ?_, ?_⟩
    · unfold Blk; simpa using hg
    · simpa using hsz
    · rw [h.1]; exact Nat.mul_le_mul_right _ hnc
    · rw [h.1]; exact ht
theorem Rw.ow {F : Nat → Prop} {size n cap : Nat} (h : Rw w b off T (cap * size) xs) (hl : xs.length = n * size) (hn : n ≤ cap) (hc : cap ≤ maxLen) (hF : F b) : Ow F w T size (.slice (some ⟨b, off, none⟩) n cap) n xs := by
  obtain ⟨dst, h1, h2, h3, h4⟩ := h
  refine ⟨hl, .inr ⟨b, off, cap, dst.toArray, rfl, hF, h1, hn, hc, by simpa using h2, ?_⟩⟩
  rw [← hl]; exact h4
end

theorem blk_setCells {w : World} {b : Nat} {dst : List Value} {T : TypeId} (h : Blk w b dst T) (o : Nat) (cs : List Value) (hf : o + cs.length ≤ dst.length) : Blk (w.setCells b o cs) b (splice dst o cs) T := by
  obtain ⟨cur, h1, h2, h3⟩ := heap_setCells (g := b) (e := T) cs o w dst.toArray h (by simpa using hf)
  have : cur = (splice dst o cs).toArray := by
    apply Array.toList_inj.1
    rw [h3]; simp [splice]
  unfold Blk; rw [h1, this]
theorem fr_setCells (w : World) (b o : Nat) (cs : List Value) : Fr (fun x => x = b) w (w.setCells b o cs) := Fr.setCells (S := fun x => x = b) (a := w) (.inl rfl) cs o w (Fr.refl _ _)

section
variable {P : Program}
/-- copy, elements of k cells. -/
theorem run_copy_n (w : World) (dT sT ty elem : TypeId) (k b o dLen dCap : Nat) (ad : Addr) (sLen sCap : Nat) (cs : List Value) (m : Nat)
    (hu : P.underlying dT = some (.slice elem)) (hs : (P.info? elem).map (·.size) = some k) (hm : Nat.min sLen dLen = m) (hl : cs.length = m * k)
    (hsrc : ∀ j v, cs[j]? = some v → w.cell? (ad.add j) = some v) (hc : ∀ j, j < cs.length → (w.cell? ⟨b, o + j, none⟩).isSome = true) (hf : ∀ j, j < cs.length → w.frozen? ⟨b, o + j, none⟩ = false) (h1 : ∀ v ∈ cs, v.oneCell' = true) :
    (Builtin.copy_ #[dT, sT] ty #[.slice (some ⟨b, o, none⟩) dLen dCap, .slice (some ad) sLen sCap]).run P w = .ok (goInt m) (w.setCells b o cs) := by
  have hl2 := run_loadCells_list (P := P) w ad cs hsrc
  have hst := run_storeCells_cells (P := P) b o cs 0 w (by simpa using hc) (by simpa using hf) h1
  cases hq : P.info? elem with
  | none => simp [hq] at hs
  | some i =>
    have hi : i.size = k := by simpa [hq] using hs
    simp [Builtin.copy_, run_underlying hu, Builtin.lenOf, Builtin.firstCells, sizeOf, typeInfo, hq, hi, hm, ← hl, hl2, hst]

theorem wpList_copy_n {w : World} {ops : Array Oper} {rest : List Oper} {o : Oper} {a : Act} {Q : Exit → Act → World → Prop} (hgd : o.guard = none) (d s : Operand) (dT sT : TypeId)
    (ho : o.op = .call { callee := .builtin .copy, args := #[d, s], argTypes := #[dT, sT] }) (elem : TypeId) (k : Nat) (hu : P.underlying dT = some (.slice elem)) (hsz : (P.info? elem).map (·.size) = some k)
    (b o' dLen dCap : Nat) (ad : Addr) (sLen sCap : Nat) (hd : a.eval d = .slice (some ⟨b, o', none⟩) dLen dCap) (hs : a.eval s = .slice (some ad) sLen sCap)
    (cs : List Value) (m : Nat) (hm : Nat.min sLen dLen = m) (hl : cs.length = m * k) (hsrc : ∀ j v, cs[j]? = some v → w.cell? (ad.add j) = some v)
    (T : TypeId) (off p room : Nat) (xs : List Value) (hr : Rw w b off T room xs) (hop : o' = off + p) (hp : p ≤ xs.length) (hpc : p + cs.length ≤ room) (h1 : ∀ v ∈ cs, v.oneCell' = true)
    (h : ∀ w', Rw w' b off T room (splice xs p cs) → Fr (fun x => x = b) w w' → wpList P ops Q rest (a.put o.dst (goInt m)) w') : wpList P ops Q (o :: rest) a w :=
  wpList_plain hgd fun K hK => by
    subst hop
    have hrun := run_copy_n (P := P) w dT sT o.type elem k b (off + p) dLen dCap ad sLen sCap cs m hu hsz hm hl hsrc (fun j hj => by rw [Nat.add_assoc]; exact hr.has (by omega)) (fun j hj => hr.frozen _) h1
    have hw' : Rw (w.setCells b (off + p) cs) b off T room (splice xs p cs) := hr.spl hp hpc (fun dst hb hlen => blk_setCells hb _ _ hlen)
    unfold Oper.wp execOp
    simp only [ho, resolve, invoke, builtin, Sem.run_bind, Sem.run_pure, Result.andThen_ok, List.map_toArray, List.map_cons, List.map_nil, hd, hs, hrun]
    exact hK _ _ (h _ hw' (fr_setCells _ _ _ _))

theorem step_copy_n {ops : Array Oper} {o : Oper} {a : Act} {w : World} {K : Act → World → Prop} {Q : Exit → Act → World → Prop} {E : Prop} (hgd : o.guard = none) (d s : Operand) (dT sT : TypeId)
    (ho : o.op = .call { callee := .builtin .copy, args := #[d, s], argTypes := #[dT, sT] }) (elem : TypeId) (k : Nat) (hu : P.underlying dT = some (.slice elem)) (hsz : (P.info? elem).map (·.size) = some k)
    (b o' dLen dCap : Nat) (ad : Addr) (sLen sCap : Nat) (hd : a.eval d = .slice (some ⟨b, o', none⟩) dLen dCap) (hs : a.eval s = .slice (some ad) sLen sCap)
    (cs : List Value) (m : Nat) (hm : Nat.min sLen dLen = m) (hl : cs.length = m * k) (hsrc : ∀ j v, cs[j]? = some v → w.cell? (ad.add j) = some v)
    (T : TypeId) (off p room : Nat) (xs : List Value) (hr : Rw w b off T room xs) (hop : o' = off + p) (hp : p ≤ xs.length) (hpc : p + cs.length ≤ room) (h1 : ∀ v ∈ cs, v.oneCell' = true)
    (h : ∀ w', Rw w' b off T room (splice xs p cs) → Fr (fun x => x = b) w w' → K (a.put o.dst (goInt m)) w') :
    if Region.wanted o (yielded ops a.tmps) = true then Oper.wp P o a w K Q else E := by
  have hw : Region.wanted o (yielded ops a.tmps) = true := by simp [Region.wanted, hgd]
  rw [if_pos hw]
  subst hop
  have hrun := run_copy_n (P := P) w dT sT o.type elem k b (off + p) dLen dCap ad sLen sCap cs m hu hsz hm hl hsrc (fun j hj => by rw [Nat.add_assoc]; exact hr.has (by omega)) (fun j hj => hr.frozen _) h1
  have hw' : Rw (w.setCells b (off + p) cs) b off T room (splice xs p cs) := hr.spl hp hpc (fun dst hb hlen => blk_setCells hb _ _ hlen)
  unfold Oper.wp execOp
  simp only [ho, resolve, invoke, builtin, Sem.run_bind, Sem.run_pure, Result.andThen_ok, List.map_toArray, List.map_cons, List.map_nil, hd, hs, hrun]
  exact h _ hw' (fr_setCells _ _ _ _)

/-- append in place, as a step of a region that draws. -/
theorem step_append_room {ops : Array Oper} {o : Oper} {a : Act} {w : World} {K : Act → World → Prop} {Q : Exit → Act → World → Prop} {E : Prop} (hgd : o.guard = none) (s x : Operand) (t tx : TypeId)
    (ho : o.op = .call { callee := .builtin .append, args := #[s, x], argTypes := #[t, tx] }) (e : TypeId) (i : TypeInfo) (ht : P.underlying t = some (.slice e)) (hi : P.info? e = some i) (k : Nat) (hk : i.size = k)
    (b o' n cap : Nat) (hv : a.eval s = .slice (some ⟨b, o', none⟩) n cap) (y : Value) (m : Nat) (news : List Value) (hy : a.eval x = y) (hs : Src P k tx y m news w) (hroom : n + m ≤ cap)
    (T : TypeId) (room : Nat) (xs : List Value) (hr : Rw w b o' T room xs) (hp : n * k ≤ xs.length) (hpc : n * k + news.length ≤ room)
    (h : ∀ w', Rw w' b o' T room (splice xs (n * k) news) → Fr (fun x => x = b) w w' → K (a.put o.dst (.slice (some ⟨b, o', none⟩) (n + m) cap)) w') :
    if Region.wanted o (yielded ops a.tmps) = true then Oper.wp P o a w K Q else E := by
  have hw : Region.wanted o (yielded ops a.tmps) = true := by simp [Region.wanted, hgd]
  rw [if_pos hw]
  subst hk
  have hrun := run_append_room_src (P := P) w t tx o.type e i ht hi b o' n cap y m news hs hroom (fun j hj => by rw [Nat.add_assoc]; exact hr.has (by omega)) (fun j hj => hr.frozen _)
  have hw' : Rw (w.setCells b (o' + n * i.size) news) b o' T room (splice xs (n * i.size) news) := hr.spl hp hpc (fun dst hb hlen => blk_setCells hb _ _ hlen)
  unfold Oper.wp execOp
  simp only [ho, resolve, invoke, builtin, Sem.run_bind, Sem.run_pure, Result.andThen_ok, List.map_toArray, List.map_cons, List.map_nil, hv, hy, hrun]
  exact h _ hw' (fr_setCells _ _ _ _)

/-- clear, elements of k cells. -/
theorem wpList_clear_n {w : World} {ops : Array Oper} {rest : List Oper} {o : Oper} {a : Act} {Q : Exit → Act → World → Prop} (hgd : o.guard = none) (s : Operand) (t e : TypeId) (z : Value) (i : TypeInfo)
    (ho : o.op = .call { callee := .builtin .clear, args := #[s], argTypes := #[t] }) (ht : P.underlying t = some (.slice e)) (hi : P.info? e = some i) (hz : i.zero = some z) (h1z : ∀ v ∈ z.cells, v.oneCell' = true)
    (b o' n c : Nat) (hs : a.eval s = .slice (some ⟨b, o', none⟩) n c) (hn : 0 < n)
    (T : TypeId) (off p room : Nat) (xs : List Value) (hr : Rw w b off T room xs) (hop : o' = off + p) (hp : p ≤ xs.length) (hpc : p + n * z.cells.size ≤ room)
    (h : ∀ w', Rw w' b off T room (xs.take p) → Fr (fun x => x = b) w w' → wpList P ops Q rest (a.put o.dst (.tuple #[])) w') : wpList P ops Q (o :: rest) a w :=
  wpList_plain hgd fun K hK => by
    subst hop
    have hzl : ((Builtin.zeroCells z.cells n).toList).length = n * z.cells.size := by simp [Builtin.zeroCells]
    have hst := run_storeCells_cells (P := P) b (off + p) (Builtin.zeroCells z.cells n).toList 0 w (fun j hj => by rw [Nat.add_zero, Nat.add_assoc]; exact hr.has (by omega)) (fun j hj => hr.frozen _) (fun v hv => by
      simp only [Builtin.zeroCells, Array.toList_map, List.mem_map] at hv
      obtain ⟨q, hq, rfl⟩ := hv
      have hq2 : q < n * z.cells.size := by simpa using hq
      have h0 : 0 < z.cells.size := by
        rcases Nat.eq_zero_or_pos z.cells.size with h | h
        · rw [h] at hq2; omega
        · exact h
      rw [getElem!_pos z.cells _ (Nat.mod_lt _ h0)]
      exact h1z _ (Array.getElem_mem _))
    have hw' : Rw (w.setCells b (off + p) (Builtin.zeroCells z.cells n).toList) b off T room (xs.take p) := by
      have := (hr.spl (cs := (Builtin.zeroCells z.cells n).toList) hp (by omega) (fun dst hb hlen => blk_setCells hb _ _ hlen)).take p
      have e : (splice xs p (Builtin.zeroCells z.cells n).toList).take p = xs.take p := by
        unfold splice
        rw [List.take_append_of_le_length (by rw [List.length_take]; omega), List.take_take, Nat.min_self]
      rw [e] at this
      exact this
    obtain ⟨m, rfl⟩ : ∃ m, n = m + 1 := ⟨n - 1, by omega⟩
    have hrun : (Builtin.clear_ #[t] o.type #[.slice (some ⟨b, off + p, none⟩) (m + 1) c]).run P w = .ok (.tuple #[]) (w.setCells b (off + p) (Builtin.zeroCells z.cells (m + 1)).toList) := by
      simp only [Nat.add_zero] at hst
      simp [Builtin.clear_, run_underlying ht, zeroValue, typeInfo, hi, hz, hst]
    unfold Oper.wp execOp
    simp only [ho, resolve, invoke, builtin, Sem.run_bind, Sem.run_pure, Result.andThen_ok, List.map_toArray, List.map_cons, List.map_nil, hs, hrun]
    exact hK _ _ (h _ hw' (fr_setCells _ _ _ _))

/-- append of a make where there is no room: a new row. -/
theorem wpList_append_zeros {w : World} {ops : Array Oper} {rest : List Oper} {o : Oper} {a : Act} {Q : Exit → Act → World → Prop} (hgd : o.guard = none) (s x : Operand) (t tn : TypeId)
    (ho : o.op = .call { callee := .builtin .append, args := #[s, x], argTypes := #[t, tn] }) (e : TypeId) (i : TypeInfo) (z : Value) (kq kn : IntKind) (ht : P.underlying t = some (.slice e)) (htn : P.underlying tn = some (.int kn)) (hi : P.info? e = some i) (hz : i.zero = some z)
    (k bytes : Nat) (hk : i.size = k) (hby : i.bytes = bytes) (hzs : z.cells.size = k) (hk0 : 0 < k)
    (b off n cap m : Nat) (hv : a.eval s = .slice (some ⟨b, off, none⟩) n cap) (hx : a.eval x = .int kq (m : Int)) (xs : List Value) (room : Nat) (T : TypeId) (hr : Rw w b off T room xs) (hl : xs.length = n * k)
    (h0 : 0 < m) (hg : cap < n + m) (h63 : n + m ≤ maxLen) (hbytes : (n + m) * bytes ≤ 140737488355328)
    (h : ∀ w' cap', Rw w' w.heap.size 0 e (cap' * k) (xs ++ (Builtin.zeroCells z.cells m).toList) → n + m ≤ cap' → cap' ≤ maxLen → Below w.heap.size w w' → w'.heap.size = w.heap.size + 1 →
      wpList P ops Q rest (a.put o.dst (.slice (some ⟨w.heap.size, 0, none⟩) (n + m) cap')) w') : wpList P ops Q (o :: rest) a w :=
  wpList_plain hgd fun K hK => by
    subst hk hby
    have hrun := Lib.run_append_grow_zeros (P := P) w t tn o.type e i z kq kn ht htn hi hz (some ⟨b, off, none⟩) n cap xs
      (run_firstCells_some w.drew i.size n ⟨b, off, none⟩ n cap xs hl (fun j u hu => by
        have ea : (⟨b, off, none⟩ : Addr).add j = ⟨b, off + j, none⟩ := by unfold Addr.add; split <;> simp_all
        rw [ea]
        exact hr.drewW.cell hu)) m h0 hk0 hg (by unfold maxLen at h63; omega) (by
          have : m * i.bytes ≤ (n + m) * i.bytes := Nat.mul_le_mul_right _ (by omega)
          omega) (growslice_fits (by omega) hbytes)
    have hge := grownCap_ge w (n + m) cap e
    have hcm := grownCap_le_maxLen w (n + m) cap e h63
    generalize grownCap w (n + m) cap e = G at *
    have hzl : ((Builtin.zeroCells z.cells m).toList).length = m * z.cells.size := by simp [Builtin.zeroCells]
    have hsz : xs.length + m * i.size + (G - (n + m)) * i.size = G * i.size := by
      rw [hl, ← Nat.add_mul, ← Nat.add_mul]; congr 1; omega
    have hw' : Rw (w.drew.alloc (.cells (xs.toArray ++ Builtin.zeroCells z.cells m ++ Builtin.zeroCells z.cells (G - (n + m))) e)) w.heap.size 0 e (G * i.size) (xs ++ (Builtin.zeroCells z.cells m).toList) := by
      refine ⟨(xs.toArray ++ Builtin.zeroCells z.cells m ++ Builtin.zeroCells z.cells (G - (n + m))).toList, ?_, ?_, ?_, ?_⟩
      · unfold Blk; rw [Array.toArray_toList]; exact heap_alloc_new w.drew _
      · have e3 : (xs.toArray ++ Builtin.zeroCells z.cells m ++ Builtin.zeroCells z.cells (G - (n + m))).toList.length = G * i.size := by
          rw [← hsz]
          simp [Builtin.zeroCells, hzs]
          omega
        omega
      · rw [List.length_append, hzl, hzs]; omega
      · simp only [Array.toList_append, List.drop_zero]
        rw [List.take_append_of_le_length (by simp), List.take_of_length_le (by simp)]
    unfold Oper.wp execOp
    simp only [ho, resolve, invoke, builtin, Sem.run_bind, Sem.run_pure, Result.andThen_ok, List.map_toArray, List.map_cons, List.map_nil, hv, hx, hrun]
    exact hK _ _ (h _ G hw' hge hcm ((Below.refl _ _).drew.alloc (Nat.le_refl _) _) (by simp))
end
end Go.Proofs.YtoaedkinlnkkhaaDoor

namespace Go.Proofs.YtoaedkinlnkkhaaDoor
open Go.RowKit

theorem Blk.shape {w : World} {b : Nat} {cs : List Value} {T : TypeId} (h : Blk w b cs T) : w.shape? b = some (T, cs.length) := by
  unfold Blk at h; simp [World.shape?, h]
theorem infoKidS : (Tryd.prog.info? 48).map (·.size) = some 5 := by kernel_rfl
theorem sizeKid (w : World) : (Go.sizeOf 48).run Tryd.prog w = .ok 5 w := by
  obtain ⟨i0, hi, hz0, hz1, hz2⟩ := info_parts infoKid
  simp [sizeOf, typeInfo, hi, hz1]
theorem add_lit' (b o j : Nat) : (⟨b, o, none⟩ : Addr).add j = ⟨b, o + j, none⟩ := by unfold Addr.add; split <;> simp_all
theorem ins_list {α : Type} (xs news : List α) (i n m : Nat) (hm : m = 1) (hl : xs.length = n * 5) (hn : news.length = 5) (hi : i < n) :
    splice (splice xs ((i + m) * 5) (xs.drop (i * 5))) (i * 5) news = xs.take (i * 5) ++ news ++ xs.drop (i * 5) := by
  subst hm
  have e0 : xs.drop ((i + 1) * 5 + (xs.drop (i * 5)).length) = [] := List.drop_of_length_le (by rw [List.length_drop]; omega)
  have e1 : (xs.take ((i + 1) * 5)).length = (i + 1) * 5 := by rw [List.length_take]; omega
  unfold splice
  rw [e0, List.append_nil, List.take_append_of_le_length (by omega), List.take_take, Nat.min_eq_left (by omega), hn, List.append_assoc]
  congr 2
  rw [show i * 5 + 5 = (xs.take ((i + 1) * 5)).length by omega, List.drop_left]
theorem grow_list {α : Type} (X1 X2 Z news : List α) (i n m k : Nat) (hm : m = 1) (h1 : X1.length = i * 5) (h2 : X2.length = (n - i) * 5) (hz : Z.length = k * 5) (hn : news.length = 5) (hi : i < n) (hk : i + k = n + m) :
    splice (splice (X1 ++ Z) (i * 5) news) ((i + m) * 5) X2 = X1 ++ news ++ X2 := by
  subst hm
  have e1 : splice (X1 ++ Z) (i * 5) news = X1 ++ news ++ Z.drop 5 := by
    unfold splice
    rw [← h1, List.take_left, hn, ← List.drop_drop, List.drop_left, List.append_assoc]
  rw [e1]
  unfold splice
  have e2 : (X1 ++ news).length = (i + 1) * 5 := by rw [List.length_append]; omega
  rw [← e2, List.take_left, List.drop_of_length_le, List.append_nil]
  rw [List.length_append, List.length_drop]; omega

/-- What Insert gives. -/
def InsP (B n : Nat) (L : List Value) (w : World) (e : Ending) (w' : World) : Prop := ∃ a c, e = .returned (.slice a (n + 1) c) ∧ Ow (fun g => B ≤ g) w' 48 5 (.slice a (n + 1) c) (n + 1) L ∧ Below B w w'

set_option maxRecDepth 100000 in
set_option maxHeartbeats 4000000 in
theorem ins_end (B n : Nat) (a : Option Addr) (cap vb m : Nat) (hm : Hid (m = 1)) (xs news : List Value) (w : World) (h : Ow (fun g => B ≤ g) w 48 5 (.slice a n cap) n xs) (hv : Blk w vb news 48) (hn : news.length = 5) (h1n : ∀ u ∈ news, u.oneCell' = true) (h5 : n ≤ 1000) (hB : B ≤ w.heap.size) :
    Calls Tryd.prog 60 #[.slice a n cap, .int .i64 (n : Int), .slice (some ⟨vb, 0, none⟩) m m] w (InsP B n (xs ++ news) w) := by
  obtain ⟨i0, hi, hz0, hz1, hz2⟩ := info_parts infoKid
  have hm1 := hm.out
  have hs : Src Tryd.prog 5 22 (.slice (some ⟨vb, 0, none⟩) m m) m news w := Src.ofSlice _ Tryd.underlying22 _ _ _ _ (by omega) (fun j u hj => by rw [add_lit', Nat.zero_add]; exact hv.cell hj) h1n
  have hcap : n ≤ cap ∧ cap ≤ 9223372036854775807 ∧ (a = none → cap = 0) := by
    rcases h.2 with ⟨he, h0⟩ | ⟨g, o, c', cur, he, _, _, hnc, hm, _⟩
    · simp only [Value.slice.injEq] at he; obtain ⟨rfl, rfl, rfl⟩ := he; exact ⟨by omega, by omega, fun _ => rfl⟩
    · simp only [Value.slice.injEq] at he; obtain ⟨rfl, _, rfl⟩ := he; unfold maxLen at hm; exact ⟨hnc, by omega, fun h => by cases h⟩
  obtain ⟨hc1, hc2, hc3⟩ := hcap
  have HBH : Hid (∀ k, (Value.slice a n cap).ownBlock = some k → B ≤ k) := hidd (fun k hk => (h.blk k hk).1)
  have q0 : ¬ ((m : Int) = 0) := by omega
  have q1 : n + m ≤ maxLen := by unfold maxLen; omega
  have q2 : (n + m) * 80 ≤ 140737488355328 := by omega
  clear hm1 hv
  cases a with
  | none =>
    obtain rfl := hc3 rfl
    obtain rfl : n = 0 := by omega
    clear hc1 hc2 hc3 h5 hn
    go_enter Tryd.func60, Tryd.ntmps60
    go_wp2_with (at_builtin; refine wpList_append_ow _ rfl _ _ 22 22 rfl (fun g => B ≤ g) (fun g hg => Nat.le_trans hB hg) 48 i0 _ 5 80 Tryd.underlying22 hi hz0 hz1 hz2 rfl (by decide) _ _ _ rfl h _ _ _ rfl hs q1 q2 ?_)
    intro v' w1 hown' hgrow
    obtain ⟨a', cap', rfl⟩ := hown'.shape
    go_wp2
    go_ret
    rw [hm.out] at hown' ⊢
    exact ⟨a', cap', rfl, hown', (Below.refl _ _).grown hgrow hB (fun k hk => HBH.out k hk)⟩
  | some ad =>
    obtain ⟨ab, ao, asp⟩ := ad
    clear hc3
    go_enter Tryd.func60, Tryd.ntmps60
    go_wp2_with (at_builtin; refine wpList_append_ow _ rfl _ _ 22 22 rfl (fun g => B ≤ g) (fun g hg => Nat.le_trans hB hg) 48 i0 _ 5 80 Tryd.underlying22 hi hz0 hz1 hz2 rfl (by decide) _ _ _ rfl h _ _ _ rfl hs q1 q2 ?_)
    all_goals
      intro v' w1 hown' hgrow
      obtain ⟨a', cap', rfl⟩ := hown'.shape
      go_wp2
      go_ret
      rw [hm.out] at hown' ⊢
      exact ⟨a', cap', rfl, hown', (Below.refl _ _).grown hgrow hB (fun k hk => HBH.out k hk)⟩

set_option maxRecDepth 100000 in
set_option maxHeartbeats 4000000 in
theorem ins_shift (B n i b off cap vb m : Nat) (hm : Hid (m = 1)) (hm0 : 0 < m) (hm9 : m ≤ 1) (xs news : List Value) (w : World) (hr : Rw w b off 48 (cap * 5) xs) (hl : xs.length = n * 5) (hBb : B ≤ b) (hi : i < n) (hroom : n + m ≤ cap) (hcm : cap ≤ maxLen)
    (hv : Blk w vb news 48) (hn : news.length = 5) (hvb : vb ≠ b) (h1n : ∀ u ∈ news, u.oneCell' = true) (h1 : ∀ u ∈ xs, u.oneCell' = true) (h5 : n ≤ 1000) (hB : B ≤ w.heap.size) :
    Calls Tryd.prog 60 #[.slice (some ⟨b, off, none⟩) n cap, .int .i64 (i : Int), .slice (some ⟨vb, 0, none⟩) m m] w (InsP B n (xs.take (i * 5) ++ news ++ xs.drop (i * 5)) w) := by
  have hov : ∀ lb cb, (callFunc 73 #[.slice (some ⟨vb, 0, none⟩) m m, .slice (some ⟨b, off + (i + m) * 5, none⟩) lb cb]).run Tryd.prog w = .ok (.value (.bool false)) w := fun lb cb => by
    obtain ⟨dst, hd1, hd2, hd3, hd4⟩ := id hr
    rw [run_callFunc_extern Tryd.func73 (by kernel_rfl) (by kernel_rfl) (by kernel_rfl) (e := Extern.SlicesOverlaps.overlaps #[22, 22] #[4]) (by kernel_rfl),
      Lib.run_overlaps_apart w 22 4 48 Tryd.underlying22 5 sizeKid ⟨vb, 0, none⟩ ⟨b, off + (i + m) * 5, none⟩ m m lb cb hvb _ _ _ _ hv.shape hd1.shape (by omega) (hv.frozen _) (hv.frozen _)]
    rfl
  have hcm : cap ≤ 9223372036854775807 := by unfold maxLen at hcm; omega
  have hdl : (xs.drop (i * 5)).length = (n - i) * 5 := by rw [List.length_drop]; omega
  have HS1 : Hid (∀ j v, (xs.drop (i * 5))[j]? = some v → w.drew.cell? ((⟨b, off + i * 5, none⟩ : Addr).add j) = some v) := hidd (fun j v hj => by
    rw [add_lit', Nat.add_assoc]; rw [List.getElem?_drop] at hj; exact hr.drewW.cell hj)
  have HR := hidd hr.drewW
  have H1D : Hid (∀ u ∈ xs.drop (i * 5), u.oneCell' = true) := hidd (fun u hu => h1 u (List.mem_of_mem_drop hu))
  have HDL := hidd hdl
  have HL := hidd hl
  have HNL := hidd hn
  have HV := hidd hv
  have H1N := hidd h1n
  have HIL := hidd (ins_list xs news i n m hm.out hl hn hi)
  obtain ⟨X2, hX2⟩ : ∃ X2, xs.drop (i * 5) = X2 := ⟨_, rfl⟩
  rw [hX2] at HS1 H1D HDL HIL ⊢
  have q1 : (i : Int) < (n : Int) := by omega
  have q2 : ¬ (cap = i + m) := by omega
  have q5 : (0 : Int) ≤ (i : Int) + (m : Int) := by omega
  have q6 : (i : Int) ≤ (n : Int) + (m : Int) := by omega
  have q7 : ((i : Int) + (m : Int)).toNat = i + m := by omega
  have q8 : i ≤ n := by omega
  have q9 : IntKind.i64.wrap ((i : Int) + (m : Int)) = (i : Int) + (m : Int) := by rw [IntKind.wrap_i64]; omega
  have q3 : ¬ (cap = i) := by omega
  have q4 : ¬ ((i : Int) = (n : Int)) := by omega
  clear hdl hX2 hl hn hr hv h1 h1n
  go_enter Tryd.func60, Tryd.ntmps60
  go_wp2_with (simp only [hov])
  go_region_law (refine step_copy_n rfl (.tmp 73) (.tmp 76) 22 22 rfl 48 5 Tryd.underlying22 infoKidS b (off + (i + m) * 5) (n + m - (i + m)) (cap - (i + m)) ⟨b, off + i * 5, none⟩ (n + m - i) (cap - i) (by simp [Act.eval, Act.put]) (by simp [Act.eval, Act.put]) X2 (n - i) (by simp only [Nat.min_def]; split <;> omega) HDL.out HS1.out 48 off ((i + m) * 5) (cap * 5) xs HR.out rfl (by have := HL.out; omega) (by have := HDL.out; omega) H1D.out ?_; intro w1 hr1 hf1)
  have hV1 := Blk.fr (S := fun x => x = b) (show Blk w.drew vb news 48 from HV.out) hf1 hvb
  have HS2 : Hid (∀ j v, news[j]? = some v → w1.cell? ((⟨vb, 0, none⟩ : Addr).add j) = some v) := hidd (fun j v hj => by rw [add_lit', Nat.zero_add]; exact hV1.cell hj)
  have HF1 := hidd hf1
  have HR1 := hidd hr1
  clear hf1 hr1 hV1 hov HR HS1 q9
  go_wp2_with (with_reducible refine wpList_copy_n rfl (.tmp 80) (.tmp 81) 22 22 rfl 48 5 Tryd.underlying22 infoKidS b (off + i * 5) (n + m - i) (cap - i) ⟨vb, 0, none⟩ m m rfl rfl news m ?a1 ?a2 HS2.out 48 off (i * 5) (cap * 5) _ HR1.out rfl ?a3 ?a4 H1N.out ?_)
  case a1 => simp only [Nat.min_def]; split <;> omega
  case a2 => rw [hm.out]; exact HNL.out
  case a3 => have := HL.out; have := HDL.out; unfold splice; simp; omega
  case a4 => have := HNL.out; omega
  intro w2 hr2 hf2
  rw [HIL.out] at hr2
  have HF2 := hidd hf2
  have HR2 := hidd hr2
  clear hr2 hf2 HS2 HR1 HIL
  go_wp2
  go_ret
  have hl2 : (xs.take (i * 5) ++ news ++ X2).length = (n + 1) * 5 := by
    have := HL.out; have := HDL.out; have := HNL.out
    simp; omega
  rw [hm.out]
  exact ⟨_, _, rfl, HR2.out.ow hl2 (by have := hm.out; omega) (by unfold maxLen; omega) hBb, ((Fr.refl (fun x => x = b) w).drew.trans (HF1.out.trans HF2.out)).below hB (fun k e => by rw [e]; exact hBb)⟩

set_option maxRecDepth 100000 in
set_option maxHeartbeats 4000000 in
theorem ins_grow (B n i b off cap vb m : Nat) (hm : Hid (m = 1)) (hm0 : 0 < m) (hm9 : m ≤ 1) (xs news : List Value) (w : World) (hr : Rw w b off 48 (cap * 5) xs) (hl : xs.length = n * 5) (hi : i < n) (hc : n ≤ cap) (hroom : cap < n + m)
    (hv : Blk w vb news 48) (hn : news.length = 5) (h1n : ∀ u ∈ news, u.oneCell' = true) (h1 : ∀ u ∈ xs, u.oneCell' = true) (h5 : n ≤ 1000) (hB : B ≤ w.heap.size) :
    Calls Tryd.prog 60 #[.slice (some ⟨b, off, none⟩) n cap, .int .i64 (i : Int), .slice (some ⟨vb, 0, none⟩) m m] w (InsP B n (xs.take (i * 5) ++ news ++ xs.drop (i * 5)) w) := by
  obtain ⟨i0, hi0, hz0, hz1, hz2⟩ := info_parts infoKid
  have hdl : (xs.drop (i * 5)).length = (n - i) * 5 := by rw [List.length_drop]; omega
  have htl : (xs.take (i * 5)).length = i * 5 := by rw [List.length_take]; omega
  have HT := hidd (hr.take (i * 5))
  have HR := hidd hr
  have H1D : Hid (∀ u ∈ xs.drop (i * 5), u.oneCell' = true) := hidd (fun u hu => h1 u (List.mem_of_mem_drop hu))
  have HSD : Hid (∀ j v, (xs.drop (i * 5))[j]? = some v → w.cell? ⟨b, off + (i * 5 + j), none⟩ = some v) := hidd (fun j v hj => by rw [List.getElem?_drop] at hj; exact hr.cell hj)
  have HBL := hidd hr.lt
  have HVL := hidd hv.lt
  have HDL := hidd hdl
  have HTL := hidd htl
  have HNL := hidd hn
  have HV := hidd hv
  have H1N := hidd h1n
  obtain ⟨X1, hX1⟩ : ∃ X1, xs.take (i * 5) = X1 := ⟨_, rfl⟩
  obtain ⟨X2, hX2⟩ : ∃ X2, xs.drop (i * 5) = X2 := ⟨_, rfl⟩
  rw [hX2] at HSD H1D HDL ⊢
  rw [hX1] at HT HTL ⊢
  obtain ⟨k, hk⟩ : ∃ k, n + m - i = k := ⟨_, rfl⟩
  have hkk : (n : Int) + (m : Int) - (i : Int) = (k : Int) := by omega
  have hik : i + k = n + m := by omega
  have hHZ : Hid (((Builtin.zeroCells #[Value.string ⟨#[]⟩, .string ⟨#[]⟩, .string ⟨#[]⟩, .bool false, .slice none 0 0] k).toList).length = k * 5) := hidd (by simp [Builtin.zeroCells])
  obtain ⟨Z, hZ⟩ : ∃ Z, (Builtin.zeroCells #[Value.string ⟨#[]⟩, .string ⟨#[]⟩, .string ⟨#[]⟩, .bool false, .slice none 0 0] k).toList = Z := ⟨_, rfl⟩
  have HZ := hidd hZ
  rw [hZ] at hHZ
  have q1 : (i : Int) < (n : Int) := by omega
  have q3 : ¬ (cap = i) := by omega
  have q4 : ¬ ((i : Int) = (n : Int)) := by omega
  have q5 : (cap : Int) < (n : Int) + (m : Int) := by omega
  have q6 : cap ≤ 9223372036854775807 := by omega
  have q7 : (i : Int) ≤ (cap : Int) := by omega
  clear hdl hX2 hX1 hl hn hr hv h1 h1n htl hZ hk
  go_enter Tryd.func60, Tryd.ntmps60
  go_wp2_with (at_builtin; refine wpList_append_zeros rfl _ _ 22 3 rfl 48 i0 _ .i64 .i64 Tryd.underlying22 Tryd.underlying3 hi0 hz0 5 80 hz1 hz2 rfl (by decide) b off i cap k rfl (by rw [← hkk]; rfl) X1 (cap * 5) 48 HT.out HTL.out (by omega) (by omega) (by unfold maxLen; omega) (by omega) ?_)
  intro w1 c1 hr1 hc1 hm1 hb1 hs1
  rw [HZ.out] at hr1
  clear hz0 hz1 hz2 hi0 HZ
  obtain ⟨N, hN⟩ : ∃ N, w.heap.size = N := ⟨_, rfl⟩
  have HVN := HVL.out
  have HBN := HBL.out
  have hV1 := HV.out.below hb1 HVL.out
  have HSN : Hid (∀ j v, news[j]? = some v → w1.cell? ((⟨vb, 0, none⟩ : Addr).add j) = some v) := hidd (fun j v hj => by rw [add_lit', Nat.zero_add]; exact hV1.cell hj)
  have HS2 : Hid (∀ j v, X2[j]? = some v → w1.cell? ((⟨b, off + i * 5, none⟩ : Addr).add j) = some v) := hidd (fun j v hj => by
    rw [add_lit', Nat.add_assoc, hb1.cell HBL.out]; exact HSD.out j v hj)
  rw [hN] at hr1 hb1 HVN HBN hs1 hB ⊢
  have HR1 := hidd hr1
  have HB1 := hidd hb1
  have HS1 := hidd hs1
  have p1 : c1 ≤ 9223372036854775807 := by unfold maxLen at hm1; omega
  have HM1 := hidd hm1
  have HC1 := hidd hc1
  have p2 : ¬ (c1 = i) := by omega
  have p3 : ¬ (c1 = i + m) := by omega
  have p4 : (i : Int) ≤ (n : Int) + (m : Int) := by omega
  have p5 : i ≤ n + m := by omega
  have p6 : n + m ≤ c1 := hc1
  clear hr1 hb1 hs1 hm1 hc1 hV1 hkk HSD HBL HVL HV HT HR
  go_wp2_with (with_reducible refine wpList_copy_n rfl (.tmp 43) (.tmp 44) 22 22 rfl 48 5 Tryd.underlying22 infoKidS N (i * 5) (n + m - i) (c1 - i) ⟨vb, 0, none⟩ m m rfl rfl news m ?a1 ?a2 HSN.out 48 0 (i * 5) (c1 * 5) _ HR1.out ?a5 ?a3 ?a4 H1N.out ?_)
  case a1 => simp only [Nat.min_def]; split <;> omega
  case a2 => rw [hm.out]; exact HNL.out
  case a3 => have := HTL.out; simp; omega
  case a4 => have := HNL.out; omega
  case a5 => omega
  intro w2 hr2 hf2
  have HS3 : Hid (∀ j v, X2[j]? = some v → w2.drew.cell? ((⟨b, off + i * 5, none⟩ : Addr).add j) = some v) := hidd (fun j v hj => by
    have := HS2.out j v hj
    rw [add_lit'] at this ⊢
    exact Fr.cell (S := fun x => x = N) hf2 this (by show ¬ b = N; omega))
  have HR2 := hidd hr2.drewW
  have HF2 := hidd hf2
  have HGL := hidd (grow_list X1 X2 Z news i n m k hm.out HTL.out HDL.out hHZ.out HNL.out hi hik)
  have p7 : (0 : Int) ≤ (i : Int) + (m : Int) := by omega
  have p8 : ((i : Int) + (m : Int)).toNat = i + m := by omega
  have p9 : IntKind.i64.wrap ((i : Int) + (m : Int)) = (i : Int) + (m : Int) := by rw [IntKind.wrap_i64]; omega
  have p10 : i ≤ n := by omega
  clear hr2 hf2 HS2 HSN HR1
  go_wp2_with fail
  go_region_law (refine step_copy_n rfl (.tmp 50) (.tmp 53) 22 22 rfl 48 5 Tryd.underlying22 infoKidS N ((i + m) * 5) (n + m - (i + m)) (c1 - (i + m)) ⟨b, off + i * 5, none⟩ (n - i) (cap - i) (by simp [Act.eval, Act.put]) (by simp [Act.eval, Act.put]) X2 (n - i) (by simp only [Nat.min_def]; split <;> omega) HDL.out HS3.out 48 0 ((i + m) * 5) (c1 * 5) _ HR2.out (by omega) (by have := HTL.out; have := hHZ.out; have := HNL.out; unfold splice; simp; omega) (by have := HDL.out; omega) H1D.out ?_; intro w3 hr3 hf3)
  rw [HGL.out] at hr3
  have HF3 := hidd hf3
  have HR3 := hidd hr3
  clear hr3 hf3 HS3 HR2 HGL
  go_wp2
  go_ret
  have hl2 : (X1 ++ news ++ X2).length = (n + 1) * 5 := by
    have := HTL.out; have := HDL.out; have := HNL.out
    simp; omega
  rw [hm.out]
  refine ⟨_, _, rfl, HR3.out.ow hl2 (by have := hm.out; omega) HM1.out hB, ?_⟩
  exact (HB1.out.mono hB).trans ((((Fr.refl (fun x => x = N) w1).trans HF2.out).drew.trans HF3.out).below (by have := HS1.out; omega) (fun k e => by rw [e]; exact hB))

theorem insert_row (B n i : Nat) (a : Option Addr) (cap vb : Nat) (xs news : List Value) (w : World) (h : Ow (fun g => B ≤ g) w 48 5 (.slice a n cap) n xs) (hv : Blk w vb news 48) (hn : news.length = 5) (hvb : ∀ k, (Value.slice a n cap).ownBlock = some k → vb ≠ k)
    (h1n : ∀ u ∈ news, u.oneCell' = true) (h1 : ∀ u ∈ xs, u.oneCell' = true) (hi : i ≤ n) (h5 : n ≤ 1000) (hB : B ≤ w.heap.size) :
    Calls Tryd.prog 60 #[.slice a n cap, .int .i64 (i : Int), .slice (some ⟨vb, 0, none⟩) 1 1] w (InsP B n (xs.take (i * 5) ++ news ++ xs.drop (i * 5)) w) := by
  by_cases e : i = n
  · subst e
    have := ins_end B i a cap vb 1 (hidd rfl) xs news w h hv hn h1n h5 hB
    rw [List.take_of_length_le (by rw [h.1]; exact Nat.le_refl _), List.drop_of_length_le (by rw [h.1]; exact Nat.le_refl _), List.append_nil]
    exact this
  · rcases a with _ | ⟨b, off, sp⟩
    · rcases h.2 with ⟨he, h0⟩ | ⟨g, o, c', cur, he, _⟩
      · omega
      · cases he
    · obtain rfl : sp = none := by
        rcases h.2 with ⟨he, h0⟩ | ⟨g, o, c', cur, he, _⟩
        · cases he
        · simp only [Value.slice.injEq, Option.some.injEq, Addr.mk.injEq] at he; exact he.1.2.2
      obtain ⟨hr, hc, hm, hb⟩ := h.rw
      by_cases hroom : cap < n + 1
      · exact ins_grow B n i b off cap vb 1 (hidd rfl) (by omega) (by omega) xs news w hr h.1 (by omega) hc hroom hv hn h1n h1 h5 hB
      · exact ins_shift B n i b off cap vb 1 (hidd rfl) (by omega) (by omega) xs news w hr h.1 hb (by omega) (by omega) hm hv hn (hvb b rfl) h1n h1 h5 hB

theorem del_list {α : Type} (xs : List α) (i j n : Nat) (hj : j = i + 1) (hl : xs.length = n * 5) (hi : i < n) : (splice xs (i * 5) (xs.drop (j * 5))).take ((i + (n - j)) * 5) = xs.take (i * 5) ++ xs.drop (j * 5) := by
  subst hj
  have h1 : (xs.drop ((i + 1) * 5)).length = (n - (i + 1)) * 5 := by rw [List.length_drop]; omega
  rw [show (i + (n - (i + 1))) * 5 = i * 5 + (xs.drop ((i + 1) * 5)).length by rw [h1]; omega]
  exact splice_take _ _ _ (by rw [h1]; omega)
/-- What Delete gives. -/
def DelP (B n : Nat) (a : Option Addr) (cap : Nat) (L : List Value) (w : World) (e : Ending) (w' : World) : Prop := e = .returned (.slice a (n - 1) cap) ∧ Ow (fun g => B ≤ g) w' 48 5 (.slice a (n - 1) cap) (n - 1) L ∧ Below B w w'

set_option maxRecDepth 100000 in
set_option maxHeartbeats 4000000 in
theorem delete_row (B n i j b off cap : Nat) (hj : Hid (j = i + 1)) (xs : List Value) (w : World) (hr : Rw w b off 48 (cap * 5) xs) (hl : xs.length = n * 5) (hBb : B ≤ b) (hi : i < n) (hij : i < j) (hjn : j ≤ n) (hc : n ≤ cap) (hcm : cap ≤ maxLen)
    (h1 : ∀ u ∈ xs, u.oneCell' = true) (h5 : n ≤ 1000) (hB : B ≤ w.heap.size) :
    Calls Tryd.prog 61 #[.slice (some ⟨b, off, none⟩) n cap, .int .i64 (i : Int), .int .i64 (j : Int)] w (DelP B n (some ⟨b, off, none⟩) cap (xs.take (i * 5) ++ xs.drop (j * 5)) w) := by
  obtain ⟨i0, hi0, hz0, hz1, hz2⟩ := info_parts infoKid
  have hcm : cap ≤ 9223372036854775807 := by unfold maxLen at hcm; omega
  have hdl : (xs.drop (j * 5)).length = (n - j) * 5 := by rw [List.length_drop]; omega
  have HDL := hidd hdl
  have HL := hidd hl
  have HR := hidd hr.drewW
  have HDE := hidd (del_list xs i j n hj.out hl hi)
  obtain ⟨A, hA, HSRC⟩ : ∃ A : Addr, (if cap = j then some (⟨b, off, none⟩ : Addr) else some ⟨b, off + j * 5, none⟩) = some A ∧ Hid (Src Tryd.prog 5 22 (.slice (some A) (n - j) (cap - j)) (n - j) (xs.drop (j * 5)) w.drew) := by
    have h1d : ∀ u ∈ xs.drop (j * 5), u.oneCell' = true := fun u hu => h1 u (List.mem_of_mem_drop hu)
    by_cases e : cap = j
    · refine ⟨⟨b, off, none⟩, by simp [e], hidd (Src.ofSlice _ Tryd.underlying22 _ _ _ _ hdl (fun k u hu => ?_) h1d)⟩
      have := (List.getElem?_eq_some_iff.1 hu).1
      rw [hdl] at this; omega
    · refine ⟨⟨b, off + j * 5, none⟩, by simp [e], hidd (Src.ofSlice _ Tryd.underlying22 _ _ _ _ hdl (fun k u hu => ?_) h1d)⟩
      rw [add_lit', Nat.add_assoc]
      rw [List.getElem?_drop] at hu
      exact hr.cell hu
  obtain ⟨X2, hX2⟩ : ∃ X2, xs.drop (j * 5) = X2 := ⟨_, rfl⟩
  rw [hX2] at HDL HSRC HDE ⊢
  have q1 : (i : Int) ≤ (j : Int) := by omega
  have q2 : ¬ ((i : Int) = (j : Int)) := by omega
  have q3 : (j : Int) ≤ (n : Int) := by omega
  have q4 : (n : Int) ≤ (cap : Int) := by omega
  have q5 : i ≤ cap := by omega
  have q6 : (i : Int) ≤ (cap : Int) := by omega
  have q7 : i + (n - j) ≤ cap := by omega
  have q8 : ¬ (cap = i + (n - j)) := by have := hj.out; omega
  clear hl hX2 hdl hr h1
  go_enter Tryd.func61, Tryd.ntmps61
  go_wp2_with fail
  go_region_law (refine step_append_room rfl (.tmp 22) (.tmp 25) 22 22 rfl 48 i0 Tryd.underlying22 hi0 5 hz1 b off i cap (by simp [Act.eval, Act.put]) (.slice (some A) (n - j) (cap - j)) (n - j) X2 (by simp [Act.eval, Act.put]) HSRC.out q7 48 (cap * 5) xs HR.out (by have := HL.out; omega) (by have := HDL.out; omega) ?_; intro w1 hr1 hf1)
  have HF1 := hidd hf1
  have HR1 := hidd hr1
  have r1 : ((i + (n - j) : Nat) : Int) ≤ (n : Int) := by omega
  have r2 : (0 : Int) ≤ ((i + (n - j) : Nat) : Int) := by omega
  have r3 : ¬ (n - (i + (n - j)) = 0) := by omega
  clear hf1 hr1 hA HSRC HR
  go_wp2_with (with_reducible refine wpList_clear_n rfl (.tmp 31) 22 48 _ i0 rfl Tryd.underlying22 hi0 hz0 ?b1 b (off + (i + (n - j)) * 5) (n - (i + (n - j))) (cap - (i + (n - j))) rfl ?b2 48 off ((i + (n - j)) * 5) (cap * 5) _ HR1.out rfl ?b3 ?b4 ?_)
  case b1 => intro v hv; simp [Value.cells] at hv; rcases hv with rfl | rfl | rfl | rfl | rfl <;> rfl
  case b2 => omega
  case b3 => have := HL.out; have := HDL.out; unfold splice; simp; omega
  case b4 =>
    rw [show (Value.agg #[Value.string ⟨#[]⟩, Value.string ⟨#[]⟩, Value.string ⟨#[]⟩, Value.bool false, Value.slice none 0 0]).cells.size = 5 from rfl]
    omega
  intro w2 hr2 hf2
  rw [HDE.out] at hr2
  have HF2 := hidd hf2
  have HR2 := hidd hr2
  have r4 : i + (n - j) = n - 1 := by have := hj.out; omega
  have HR4 := hidd r4
  clear hr2 hf2 HR1 HDE r4
  go_wp2
  go_ret
  rw [HR4.out]
  exact ⟨rfl, HR2.out.ow (by have := HL.out; have := HDL.out; have := hj.out; simp; omega) (by omega) (by unfold maxLen; omega) hBb, (((Fr.refl (fun x => x = b) w).drew.trans HF1.out).trans HF2.out).below hB (fun k e => by rw [e]; exact hBb)⟩
end Go.Proofs.YtoaedkinlnkkhaaDoor
