/- Dirs: Drop, in plain words: links fall by the count of files. No condition. · Dirs: Drop. Condition: the dirs are there. · Dirs: Trees. Condition: the dirs are there. · DirsLinks in plain words: the links of an inode are as many as it stands in the list of all files' inodes. No condition. -/
import Derived.Test.YtoemahhpheobkaaGreatDoorDiB
import Derived.Maps.RangeWalk
import Derived.Test.YtoemahhpheobkaaGreatDoorDiC
namespace Go.Proofs.YtoemahhpheobkaaGreatDoor
open Go.RowKit Go.Shelf

/-- How many files of a list, that are done, are inode n. -/
def doneN (l : List ByteArray) (F : ByteArray → Option Nat) (done : ByteArray → Bool) (n : Nat) : Nat := (l.filter fun q => done q && decide (F q = some n)).length
theorem doneN_zero (l : List ByteArray) (F : ByteArray → Option Nat) (n : Nat) : doneN l F (fun _ => false) n = 0 := by simp [doneN]
theorem doneN_le (l : List ByteArray) (F : ByteArray → Option Nat) (done : ByteArray → Bool) (n : Nat) : doneN l F done n ≤ (l.filter fun q => decide (F q = some n)).length := by
  unfold doneN
  rw [← List.filter_filter]
  exact List.length_filter_le _ _
theorem doneN_all {l : List ByteArray} {F : ByteArray → Option Nat} {done : ByteArray → Bool} {n : Nat} (h : ∀ q ∈ l, done q = true) : doneN l F done n = (l.filter fun q => decide (F q = some n)).length := by
  unfold doneN
  congr 1
  apply List.filter_congr
  intro q hq
  rw [h q hq, Bool.true_and]
theorem doneN_step {l : List ByteArray} (hn : l.Nodup) {F : ByteArray → Option Nat} {q : ByteArray} (hq : q ∈ l) {done done' : ByteArray → Bool} (hd : done q = false) (hd' : ∀ z, done' z = (done z || decide (z = q))) (m : Nat) :
    doneN l F done' m = doneN l F done m + if F q = some m then 1 else 0 := by
  unfold doneN
  induction l with
  | nil => simp at hq
  | cons a r ih =>
    rw [List.nodup_cons] at hn
    by_cases ha : a = q
    · subst ha
      have e : (r.filter fun i => done' i && decide (F i = some m)) = r.filter fun i => done i && decide (F i = some m) := by
        apply List.filter_congr
        intro i hi
        have : i ≠ a := fun e => hn.1 (e ▸ hi)
        simp [hd' i, this]
      rw [List.filter_cons, List.filter_cons, e, hd' a, hd]
      by_cases h2 : F a = some m <;> simp [h2]
    · have hq' : q ∈ r := by
        rcases List.mem_cons.1 hq with h | h
        · exact absurd h.symm ha
        · exact h
      have h1 := ih hn.2 hq'
      rw [List.filter_cons, List.filter_cons, hd' a]
      simp only [ha, decide_false, Bool.or_false]
      by_cases h2 : (done a && decide (F a = some m)) = true
      · rw [if_pos h2, if_pos h2, List.length_cons, List.length_cons, h1]; omega
      · rw [if_neg h2, if_neg h2, h1]
/-- The table where so many files of a tree are dropped. -/
structure DropJ (T : Nat → Option Ino) (e : Dt) (done : ByteArray → Bool) (Tj : Nat → Option Ino) : Prop where
  no : ∀ n, T n = none → Tj n = none
  le : ∀ n x, T n = some x → doneN e.fl e.F done n ≤ x.links
  be : ∀ n x, T n = some x → Tj n = if doneN e.fl e.F done n = x.links then none else some { x with links := x.links - doneN e.fl e.F done n }
theorem DropJ.zero {T : Nat → Option Ino} {e : Dt} (hp : ∀ n x, T n = some x → 1 ≤ x.links) : DropJ T e (fun _ => false) T where
  no := fun _ h => h
  le := fun n x h => by rw [doneN_zero]; exact Nat.zero_le _
  be := fun n x h => by
    have := hp n x h
    rw [doneN_zero, if_neg (by omega), h]
    rfl
theorem DropJ.step {T Tj : Nat → Option Ino} {e : Dt} {done done' : ByteArray → Bool} (h : DropJ T e done Tj) (hn : e.fl.Nodup) {q : ByteArray} (hq : q ∈ e.fl) (hd : done q = false) (hd' : ∀ z, done' z = (done z || decide (z = q))) {n : Nat} {x : Ino} (hF : e.F q = some n) (hx : T n = some x) (hcap : cntE (some e) n ≤ x.links) :
    doneN e.fl e.F done n + 1 ≤ x.links ∧ Tj n = some { x with links := x.links - doneN e.fl e.F done n } ∧
      DropJ T e done' (upd Tj n (if x.links - doneN e.fl e.F done n = 1 then none else some { x with links := x.links - doneN e.fl e.F done n - 1 })) := by
  have hs := fun m => doneN_step hn hq hd hd' m (F := e.F)
  have h1 := hs n
  rw [hF, if_pos rfl] at h1
  have h2 := doneN_le e.fl e.F done' n
  have h3 : (e.fl.filter fun q => decide (e.F q = some n)).length ≤ x.links := hcap
  have hc : doneN e.fl e.F done n + 1 ≤ x.links := by omega
  refine ⟨hc, by rw [h.be n x hx, if_neg (by omega)], fun m hm => ?_, fun m y hy => ?_, fun m y hy => ?_⟩
  · rw [upd_other _ _ _ (fun e => by subst e; rw [hx] at hm; cases hm)]
    exact h.no m hm
  · by_cases em : m = n
    · subst em
      rw [hx] at hy
      obtain rfl := Option.some.inj hy
      omega
    · have := hs m
      rw [hF, if_neg (fun e' => em (Option.some.inj e').symm)] at this
      rw [this]
      exact h.le m y hy
  · by_cases em : m = n
    · subst em
      rw [hx] at hy
      obtain rfl := Option.some.inj hy
      rw [upd_same, h1]
      by_cases h4 : x.links - doneN e.fl e.F done m = 1
      · rw [if_pos h4, if_pos (by omega)]
      · rw [if_neg h4, if_neg (by omega)]
        rw [show x.links - doneN e.fl e.F done m - 1 = x.links - (doneN e.fl e.F done m + 1) by omega]
    · have := hs m
      rw [hF, if_neg (fun e' => em (Option.some.inj e').symm)] at this
      rw [upd_other _ _ _ em, this]
      exact h.be m y hy
theorem DropJ.fall {T Tj : Nat → Option Ino} {e : Dt} {done : ByteArray → Bool} (h : DropJ T e done Tj) (ha : ∀ q ∈ e.fl, done q = true) (hc : ∀ n, cntE (some e) n ≤ lnk (T n)) (n : Nat) : lnk (Tj n) + cntE (some e) n = lnk (T n) := by
  have h1 := hc n
  cases hT : T n with
  | none =>
    rw [hT] at h1
    rw [h.no n hT]
    simp only [lnk] at h1 ⊢
    omega
  | some x =>
    rw [hT] at h1
    have h2 := doneN_all (n := n) (F := e.F) ha
    have h3 : cntE (some e) n = doneN e.fl e.F done n := h2.symm
    rw [h.be n x hT, h3]
    rw [h3] at h1
    simp only [lnk] at h1 ⊢
    by_cases h4 : doneN e.fl e.F done n = x.links
    · rw [if_pos h4]; simp only; omega
    · rw [if_neg h4]; simp only; omega
theorem Lnk.drop {T Tj : Nat → Option Ino} {D : Nat → Option Dt} {K k : Nat} {e : Dt} (h : Lnk T D K) (hk : k < K) (he : D k = some e) (hj : ∀ n, lnk (Tj n) + cntE (some e) n = lnk (T n)) : Lnk Tj (updD D k none) K := fun n => by
  have h1 := refsN_upd D k none n K hk
  rw [he] at h1
  have h2 := h n
  have h3 := hj n
  have h4 : cntE none n = 0 := rfl
  omega
theorem DropJ.back {T Tj : Nat → Option Ino} {e : Dt} {done : ByteArray → Bool} (h : DropJ T e done Tj) {n : Nat} {y : Ino} (hy : Tj n = some y) : ∃ x, T n = some x ∧ y.data = x.data ∧ y.exec = x.exec ∧ y.bl = x.bl ∧ y.blk = x.blk := by
  cases hT : T n with
  | none => rw [h.no n hT] at hy; cases hy
  | some x =>
    rw [h.be n x hT] at hy
    split at hy
    · cases hy
    · cases hy; exact ⟨x, rfl, rfl, rfl, rfl, rfl⟩
end Go.Proofs.YtoemahhpheobkaaGreatDoor

namespace Go.Proofs.YtoemahhpheobkaaGreatDoor
open Go.RowKit Go.Shelf

/-- A map that is ranged over, and its iterator, lie where others write not. -/
theorem ranges_fr {H : Type} {P : Program} {k : TypeId} {R : Value → Option (DataW H × List MemPlace)} {b r n cnt : Nat} {D : DataW H} {left : Lit → Bool} {w w' : World} {S : Nat → Prop} (h : w.ranges P k R b r n D left cnt) (hf : Fr S w w') (hb : ¬ S b) (hr : ¬ S r) : w'.ranges P k R b r n D left cnt := by
  obtain ⟨es, clock, since, seen, c0, h1, h2, h3, h4, h5, h6, h7, h8, h9, h10, h11⟩ := h
  exact ⟨es, clock, since, seen, c0, hf.heap h1 hb, h2, h3, h4, hf.heap h5 hr, h6, h7, h8, h9, h10, h11⟩
theorem dmF_del (D : Nat → Option Dt) (k : Nat) : dmF (updD D k none) = fun i => if i = (k : Int) then none else dmF D i := by
  funext i
  unfold dmF updD
  by_cases h : i = (k : Int)
  · subst h; simp
  · rw [if_neg h]
    by_cases h0 : 0 ≤ i
    · rw [if_pos h0, if_pos h0, if_neg (by omega)]
    · rw [if_neg h0, if_neg h0]
/-- A tree is struck. -/
theorem DiM.del {pc : Prop} {w w' : World} {L : Loc} {s : St} (h : DiM pc w L s) (k : Nat) (hf : Fr (fun b => b = L.mb) w w') (hmp : MapD w' L.mb s.nm (updD s.D k none)) : DiM pc w' L { s with D := updD s.D k none } := by
  have hmb : notTb L s.T L.mb := notTb_map h.tb h.mp.noc h.ne.1
  have key : ∀ i f, updD s.D k none i = some f → s.D i = some f := fun i f hi => by
    rcases updD_cases hi with ⟨-, h1⟩ | ⟨-, h1⟩
    · cases h1
    · exact h1
  exact {
    tb := tb_fr h.tb hf (fun b hb => by rw [hb]; exact hmb)
    bk := h.bk.fr hf (fun e' => noc_blk h.bk h.mp.noc e'.symm)
    mp := hmp
    fms := fun i f hi => (h.fms i f (key i f hi)).fr hf (h.ne.2 i f (key i f hi)).2
    tr := fun i f hi => ok_fr hf _ (h.tr i f (key i f hi)) (in_mono (fun b hb e' => hb (.inr (.inr (.inl e')))) _ (h.inn i f (key i f hi)))
    inn := fun i f hi => in_mono (fun b hb hd => hb (by
      rcases hd with hd | hd | hd | ⟨j, g, hj, hd⟩
      · exact .inl hd
      · exact .inr (.inl hd)
      · exact .inr (.inr (.inl hd))
      · exact .inr (.inr (.inr ⟨j, g, key j g hj, hd⟩)))) _ (h.inn i f (key i f hi))
    ne := ⟨h.ne.1, fun i f hi => h.ne.2 i f (key i f hi)⟩
    inj := fun i j f g hi hj hij => h.inj i j f g (key i f hi) (key j g hj) hij
    base := ⟨h.base.1, h.base.2.1, fun i f hi => h.base.2.2 i f (key i f hi)⟩
    far := fun i hi => by
      show updD s.D k none i = none
      by_cases e : i = k
      · subst e; exact updD_same _ _ _
      · rw [updD_other _ _ _ e]; exact h.far i hi
    sz := h.sz }
/-- What Drop leaves. -/
def DrP (pc : Prop) (L : Loc) (s : St) (k : Nat) (w : World) (e : Ending) (w' : World) : Prop :=
  e = .returned .nilIface ∧ Fr (diS L s) w w' ∧ ∃ (T' : Nat → Option Ino) (us' : List Bool), DiAt pc w' L { s with T := T', us := us', N := s.N + 300, D := updD s.D k none } ∧ (∀ n y, T' n = some y → ∃ x, s.T n = some x ∧ y.data = x.data ∧ y.exec = x.exec ∧ y.bl = x.bl ∧ y.blk = x.blk)

set_option maxRecDepth 100000 in
set_option maxHeartbeats 4000000 in
theorem ddrop_none {pc : Prop} (E : Nat → Addr) (B : Nat) (L : Loc) (s : St) (k : Int) (w : World) (h : DiM pc w L s) (hE : Env diGs B w E) (hk : K64 k) (hd : dmF s.D k = none) :
    Calls Tryz.prog 10 #[.pointer (some ⟨L.d, 0, none⟩), .int .i64 k] w fun e w' => e = .returned (.iface 249 (.pointer (some (E 1)))) ∧ Below w.heap.size w w' := by
  have hc1 := h.c1
  have hl := h.look_ok hk
  rw [hd] at hl
  simp only [Option.getD_none, Option.isSome_none, entZ] at hl
  have hB1 : Below w.heap.size w (w.alloc (.cells #[.string ⟨#[]⟩, .string ⟨#[]⟩, .bool false, .slice none 0 0, .map none] 83)) := (Below.refl _ _).alloc (Nat.le_refl _) _
  have g1 := (hE.ob hB1).cell _ di_none
  unfold erv at g1
  have HB1 := hidd hB1
  clear h hE hd hB1
  go_enter Tryz.func10, Tryz.ntmps10
  go_upto_region 3 with fail
  generalize w.alloc (.cells #[.string ⟨#[]⟩, .string ⟨#[]⟩, .bool false, .slice none 0 0, .map none] 83) = w1 at *
  go_wp2_with fail
  go_ret
  exact ⟨rfl, HB1.out⟩

section
variable (w : World) {ops : Array Oper} {rest : List Oper} {o : Oper} {a : Act} {Q : Exit → Act → World → Prop} {m n : Nat} {D : Nat → Option Dt}
/-- delete(d.m, k). -/
theorem wpList_delD (hg : o.guard = none) (mo xo : Operand) (hop : o.op = Op.call { callee := Callee.builtin Builtin.delete, args := #[mo, xo], argTypes := #[76, 3] }) (hm : a.eval mo = .map (some m)) (h : MapD w m n D) (k : Nat) (hx : a.eval xo = .int .i64 (k : Int)) (hk : K64 (k : Int))
    (hK : ∀ w', MapD w' m n (updD D k none) → Fr (fun b => b = m) w w' → wpList Tryz.prog ops Q rest (a.put o.dst (.tuple #[])) w') : wpList Tryz.prog ops Q (o :: rest) a w := by
  obtain ⟨vals, h0, h1⟩ := h
  exact wpList_delV w hg mo xo _ 83 hop Tryz.underlying76 hm h1 (k : Int) hx hk (fun w' h2 h3 => hK w' ⟨vals, h0, by rw [dmF_del]; exact h2⟩ h3)
end
theorem doneN_congr {l : List ByteArray} {F : ByteArray → Option Nat} {done done' : ByteArray → Bool} (h : ∀ q ∈ l, done q = done' q) (n : Nat) : doneN l F done n = doneN l F done' n := by
  unfold doneN
  congr 1
  apply List.filter_congr
  intro q hq
  rw [h q hq]
theorem DropJ.congr {T Tj : Nat → Option Ino} {e : Dt} {done done' : ByteArray → Bool} (hj : DropJ T e done Tj) (h : ∀ q ∈ e.fl, done q = done' q) : DropJ T e done' Tj where
  no := hj.no
  le := fun n x hx => by rw [← doneN_congr h]; exact hj.le n x hx
  be := fun n x hx => by rw [← doneN_congr h]; exact hj.be n x hx
/-- How many entries a map of files has. -/
theorem fm_size {vals : List Value} {w : World} {m n : Nat} {e : Dt} (hw : e.Well) {D : DataW Unit} (hD : w.ownsMap Tryz.prog 9 (vElem vals) m n D) (hf : ∀ s z, D.atKey (.string s.data.toList) z = (match fmF e.F s with | some v => .lit (.int .i64 (ix vals v : Int)) | none => z)) : Maps.size D = e.fl.length := by
  obtain ⟨es, hD1, hpw, _⟩ := hD.entries (Maps.string_keyed Tryz.underlying9)
  obtain ⟨es', hD2, hk⟩ := hD.keysOf
  obtain rfl : es = es' := by rw [hD1] at hD2; simpa using hD2
  subst hD1
  have hsh : ∀ p ∈ es, ∃ x : List UInt8, p.1 = .string x := fun p hp => by
    obtain ⟨v, hv⟩ := hk p hp
    obtain ⟨x, -, hx, -⟩ := Maps.keyOf_str Tryz.underlying9 hv
    exact ⟨x, hx⟩
  have hnd : (es.map fun p => (⟨(strOf p.1).toArray⟩ : ByteArray)).Nodup := by
    refine List.pairwise_map.2 (hpw.imp_of_mem fun {p q} hp' hq' hne e => hne ?_)
    obtain ⟨x, hx⟩ := hsh p hp'
    obtain ⟨y, hy⟩ := hsh q hq'
    rw [hx, hy] at e ⊢
    have e2 : (⟨x.toArray⟩ : ByteArray) = ⟨y.toArray⟩ := e
    have e3 := congrArg (fun b : ByteArray => b.data.toList) e2
    simp only at e3
    exact congrArg _ e3
  have hmem : ∀ q : ByteArray, q ∈ (es.map fun p => (⟨(strOf p.1).toArray⟩ : ByteArray)) ↔ q ∈ e.fl := fun q => by
    have h1 := hasS (hf q)
    have h2 : (fmF e.F q).isSome = (e.F q).isSome := by unfold fmF; cases e.F q <;> rfl
    rw [← hw.dom q, ← h2, ← h1, Maps.has_eq, List.any_eq_true, List.mem_map]
    constructor
    · rintro ⟨p, hp, rfl⟩
      obtain ⟨x, hx⟩ := hsh p hp
      refine ⟨p, hp, ?_⟩
      rw [hx]
      exact (WideAt.sameKey_iff (show WideAt.IsKeyLit (.string x) from trivial)).2 rfl
    · rintro ⟨p, hp, he⟩
      obtain ⟨x, hx⟩ := hsh p hp
      refine ⟨p, hp, ?_⟩
      have := (WideAt.sameKey_iff (show WideAt.IsKeyLit (.string q.data.toList) from trivial)).1 he
      rw [this]
      rfl
  have hp := (List.perm_ext_iff_of_nodup hnd hw.nodup).2 hmem
  have := hp.length_eq
  rw [List.length_map] at this
  rw [← this]
  rfl

/-- The loop of Drop. -/
structure DrL (pc : Prop) (L : Loc) (s : St) (e0 : Dt) (vals : List Value) (D : DataW Unit) (r : Nat) (w2 : World) (left : Lit → Bool) (cnt : Nat) (Tj : Nat → Option Ino) (uj : List Bool) (Nj : Nat) (wr : World) : Prop where
  rg : wr.ranges Tryz.prog 9 (vElem vals) e0.fm r s.N D left cnt
  tb : TbAt pc wr L.B L.t L.p L.r L.ps L.rs L.m Nj Tj uj s.ls
  nj : Nj + cnt ≤ s.N + 200 ∧ s.N ≤ Nj
  j : DropJ s.T e0 (fun q => !left (.string q.data.toList)) Tj
  fr : Fr (tbS L.p L.r L.rs L.m s.T) w2 wr
  sub : ∀ b, tbS L.p L.r L.rs L.m Tj b → tbS L.p L.r L.rs L.m s.T b
theorem noc_iter {w : World} {r : Nat} {P : Program} {k : TypeId} {R : Value → Option (DataW Unit × List MemPlace)} {b n cnt : Nat} {D : DataW Unit} {left : Lit → Bool} (h : w.ranges P k R b r n D left cnt) : (∀ c T z, w.heap[r]? ≠ some (.cells c T z)) ∧ (∀ es cl, w.heap[r]? ≠ some (.map es cl)) ∧ ∀ c T z, w.heap[b]? ≠ some (.cells c T z) := by
  obtain ⟨es, clock, since, seen, c0, h1, h2, h3, h4, h5, -⟩ := h
  exact ⟨fun c T z e => (by rw [h5] at e; cases e), fun es cl e => (by rw [h5] at e; cases e), fun c T z e => (by rw [h1] at e; cases e)⟩

set_option maxRecDepth 100000 in
set_option maxHeartbeats 8000000 in
theorem ddrop_some {pc : Prop} (L : Loc) (s : St) (k : Nat) (e0 : Dt) (w : World) (h : DiAt pc w L s) (hk : K64 (k : Int)) (hN : s.N ≤ 500000) (he : s.D k = some e0) (h200 : e0.fl.length ≤ 200) :
    Calls Tryz.prog 10 #[.pointer (some ⟨L.d, 0, none⟩), .int .i64 (k : Int)] w (DrP pc L s k w) := by
  obtain ⟨ea, ec, hev⟩ := (h.tr _ _ he).shape
  have hc1 := h.c1
  have hl := h.look_ok hk
  rw [dmF_nat, he] at hl
  simp only [Option.map_some, Option.getD_some, Option.isSome_some, entV] at hl
  rw [hev] at hl
  generalize e0.tr.kids.length = el at *
  obtain ⟨ek, hek⟩ : ∃ x, e0.tr.kind = x := ⟨_, rfl⟩
  obtain ⟨ed, hed⟩ : ∃ x, e0.tr.data = x := ⟨_, rfl⟩
  obtain ⟨ee, hee⟩ : ∃ x, e0.tr.exec = x := ⟨_, rfl⟩
  rw [hek, hed, hee] at hl
  have hB1 : Below w.heap.size w (w.alloc (.cells #[.string ek, .string ed, .bool ee, .slice ea el ec, .map (some e0.fm)] 83)) := (Below.refl _ _).alloc (Nat.le_refl _) _
  have hx := Blk.new w [.string ek, .string ed, .bool ee, .slice ea el ec, .map (some e0.fm)] 83
  have h1 := h.low hB1
  have HH := hidd h
  have HB1 := hidd hB1
  clear h hB1 hek hed hee hev
  go_enter Tryz.func10, Tryz.ntmps10
  go_upto_region 4 with fail
  generalize w.alloc (.cells #[.string ek, .string ed, .bool ee, .slice ea el ec, .map (some e0.fm)] 83) = w1 at *
  have c1 := h1.c1
  have hmp1 := h1.mp
  have HH1 := hidd h1
  have hxl := hx.lt
  clear hl hc1 h1
  go_wp2_with (first
    | (at_delete; refine wpList_delD _ rfl _ _ rfl rfl hmp1 k rfl hk ?_; intro w2 hmp2 hf2; have hx2 := hx.fr hf2 (fun e' => noc_blk hx HH1.out.mp.noc e'.symm); have x4 := hx2.cell (i := 4) rfl; obtain ⟨vals, ⟨hv0, hvi⟩, D, hown, hvs, hDf⟩ := (HH1.out.fms k e0 he).fr hf2 (HH1.out.ne.2 k e0 he).2)
    | (at_range; refine wpList_range_own _ rfl _ 79 rfl 9 3 (Maps.string_keyed Tryz.underlying9) Tryz.underlying79 (vElem vals) e0.fm s.N D rfl hown ?_; intro w3 hrg0 hg0 hs0)
    | fail)
  go_frame
  have hM2 := HH1.out.toDiM.del k hf2 hmp2
  have hsz := fm_size (HH.out.well k e0 he) hown hDf
  have hF3 : Fr (tbS L.p L.r L.rs L.m s.T) w2 w3 := (Fr.refl _ w2).grown hg0 (fun k hk => by cases hk)
  have hI0 : DrL pc L s e0 vals D w2.heap.size w2 (Maps.has D) (Maps.size D) s.T s.us s.N w3 := {
    rg := hrg0
    tb := hM2.tb.ob ((Below.refl _ w2).grown hg0 (Nat.le_refl _) (fun k hk => by cases hk))
    nj := ⟨by rw [hsz]; omega, Nat.le_refl _⟩
    j := (DropJ.zero (fun n x hx => (HH.out.tb.ok n x hx).pos)).congr (fun q hq => by
      have h2 := hasS (hDf q)
      have h3 := ((HH.out.well k e0 he).dom q).2 hq
      rw [h2]
      unfold fmF
      cases hq' : e0.F q with
      | none => rw [hq'] at h3; cases h3
      | some n => rfl)
    fr := hF3
    sub := fun _ hb => hb }
  have HI0 := hidd hI0
  have HM2 := hidd hM2
  have HOW := hidd (⟨hvi, hDf, hvs⟩ : (∀ v ∈ vals, ∃ c : Int, v = .int .i64 c) ∧ (∀ s z, D.atKey (.string s.data.toList) z = (match fmF e0.F s with | some v => .lit (.int .i64 (ix vals v : Int)) | none => z)) ∧ ∀ s v, fmF e0.F s = some v → v ∈ vals)
  have HF12 := hidd (⟨hf2, hs0⟩ : Fr (fun b => b = L.mb) w1 w2 ∧ w3.heap.size = w2.heap.size + 1)
  have hfm0 := (HH.out.fms k e0 he).lt
  have hcap : ∀ n x, s.T n = some x → cntE (some e0) n ≤ x.links := fun n x hx => by
    have h1 := refsN_ge s.D n s.nx (HH.out.lt he)
    rw [he] at h1
    have h2 := HH.out.lnk n
    rw [hx] at h2
    simp only [lnk] at h2
    omega
  have HCAP := hidd hcap
  clear hI0 hM2 hx hx2 x4 hF3 hown hvs hDf hv0 hrg0 hg0 hs0 hmp2 hf2 hcap c1 hmp1 hvi
  go_loopw [8, 9] (fun _ _ wr => ∃ (left : Lit → Bool) (cnt : Nat) (Tj : Nat → Option Ino) (uj : List Bool) (Nj : Nat), DrL pc L s e0 vals D w2.heap.size w2 left cnt Tj uj Nj wr) (fun _ _ wr => wr.rangeLeft e0.fm w2.heap.size)
  case atStart => exact ⟨_, _, _, _, _, HI0.out⟩
  case round =>
    obtain ⟨left, cnt, Tj, uj, Nj, hI⟩ := hrel
    clear HI0
    go_wp2_with (first
      | (at_next; refine wpList_next_ranges _ rfl _ rfl 9 (Maps.string_keyed Tryz.underlying9) (vElem vals) Value.string (Value.int .i64) ?iK ?iV e0.fm w2.heap.size s.N D left cnt rfl hI.rg ?_ ?_)
      | fail)
    case iK => exact fun key kl h => by obtain ⟨x, hx, -, -⟩ := Maps.keyOf_str Tryz.underlying9 h; exact ⟨⟨x.toArray⟩, hx⟩
    case iV =>
      intro v y hv
      unfold vElem at hv
      split at hv
      · rename_i hm
        exact HOW.out.1 v hm
      · cases hv
    · intro hc0 hl0
      have HP : Hid (DrP pc L s k w (.returned .nilIface) wr) := hidd (by
        have hh := HH.out
        have hcl : ∀ n, cntE (some e0) n ≤ lnk (s.T n) := fun n => by
          have h1 := refsN_ge s.D n s.nx (hh.lt he)
          rw [he] at h1
          have h2 := hh.lnk n
          omega
        have hnj := hI.nj
        refine ⟨rfl, ((Fr.ob HB1.out).trans' HF12.out.1 (U := diS L s) (fun _ _ h => h) (fun _ _ h => .inr (.inr (.inl h)))).trans' hI.fr (fun _ _ h => h) (fun _ _ h => .inl h), Tj, uj, { toDiM := HM2.out.table hI.fr (show s.N ≤ s.N + 300 by omega) (hI.tb.more (by omega)) hh.sz (fun b hb => .inl (hI.sub b hb)), well := fun i f hi => ?_, lnk := hh.lnk.drop (hh.lt he) he (hI.j.fall (fun q _ => by simp only [hl0]; rfl) hcl), dat := fun hpc i f hi => ?_ }, fun n y hy => ?_⟩
        · rcases updD_cases hi with ⟨-, h1⟩ | ⟨-, h1⟩
          · cases h1
          · exact hh.well i f h1
        · rcases updD_cases hi with ⟨-, h1⟩ | ⟨-, h1⟩
          · cases h1
          · intro it hit m y hm hy
            obtain ⟨x, hx, g1, g2, -⟩ := hI.j.back hy
            rw [g1, g2]
            exact hh.dat hpc i f h1 it hit m x hm hx
        · obtain ⟨x, hx, g1, g2, g3, g4⟩ := hI.j.back hy
          exact ⟨x, hx, g1, g2, g3, g4⟩)
      clear hI
      go_wp2_with fail
      go_ret
      exact HP.out
    · intro x c kl y1 y2 w4 cnt1 hkl hlk hvc hat hrg1 hlt hg1 hs1 hen
      obtain ⟨xs, hx1, rfl, -⟩ := Maps.keyOf_str Tryz.underlying9 hkl
      have hxs : x = (⟨xs.toArray⟩ : ByteArray) := by
        have h1 : Value.string x = Value.string ⟨xs.toArray⟩ := hx1
        exact Value.string.inj h1
      have hxd : xs = x.data.toList := by rw [hxs]
      rw [hxd] at hlk hat hrg1
      have hmem : Value.int .i64 c ∈ vals := by
        unfold vElem at hvc
        split at hvc
        · rename_i hm; exact hm
        · cases hvc
      rw [vElem_some hmem] at hvc
      have hy1 : y1 = .lit (.int .i64 (ix vals (.int .i64 c) : Int)) := by simpa using (congrArg Prod.fst (Option.some.inj hvc)).symm
      subst hy1
      have hFx : ∃ n : Nat, e0.F x = some n ∧ c = (n : Int) := by
        have h1 := fun z => HOW.out.2.1 x z
        cases hF : e0.F x with
        | none =>
          rw [show fmF e0.F x = none by unfold fmF; rw [hF]; rfl] at h1
          have h2 := (hat (.lit (.bool true))).symm.trans (h1 (.lit (.bool true)))
          cases h2
        | some n =>
          rw [show fmF e0.F x = some (.int .i64 (n : Int)) by unfold fmF; rw [hF]; rfl] at h1
          have h2 := (hat (.lit (.bool true))).symm.trans (h1 (.lit (.bool true)))
          have hmn : Value.int .i64 (n : Int) ∈ vals := HOW.out.2.2 x _ (by unfold fmF; rw [hF]; rfl)
          have h3 : ix vals (.int .i64 c) = ix vals (.int .i64 (n : Int)) := by
            have h5 : ((ix vals (.int .i64 c) : Nat) : Int) = ((ix vals (.int .i64 (n : Int)) : Nat) : Int) := by simpa using h2
            omega
          have h4 := ix_inj hmem hmn h3
          exact ⟨n, rfl, by injection h4⟩
      obtain ⟨n, hF, rfl⟩ := hFx
      have hq : x ∈ e0.fl := fm_pos (HH.out.well k e0 he) hF
      obtain ⟨xx, hxT, -⟩ := HH.out.ino he hF
      have hd : (fun q : ByteArray => !left (.string q.data.toList)) x = false := by simp only [hlk]; rfl
      have hd' : ∀ z : ByteArray, (fun q : ByteArray => !(left (.string q.data.toList) && !(Lit.string q.data.toList).sameKey (.string x.data.toList))) z = ((fun q : ByteArray => !left (.string q.data.toList)) z || decide (z = x)) := fun z => by
        have h1 : (Lit.string z.data.toList).sameKey (.string x.data.toList) = decide (z = x) := by
          by_cases e : z = x
          · subst e
            rw [decide_eq_true rfl]
            exact (WideAt.sameKey_iff (show WideAt.IsKeyLit (.string z.data.toList) from trivial)).2 rfl
          · rw [decide_eq_false e]
            cases hs : (Lit.string z.data.toList).sameKey (.string x.data.toList) with
            | false => rfl
            | true =>
              have h2 := (WideAt.sameKey_iff (show WideAt.IsKeyLit (.string x.data.toList) from trivial)).1 hs
              exact absurd (toList_inj (by injection h2)) e
        simp only [h1]
        cases left (.string z.data.toList) <;> cases decide (z = x) <;> rfl
      obtain ⟨hc1, hTj, hJ⟩ := hI.j.step (HH.out.well k e0 he).nodup hq hd hd' hF hxT (HCAP.out n xx hxT)
      obtain ⟨dn, hdn⟩ : ∃ m, doneN e0.fl e0.F (fun q : ByteArray => !left (.string q.data.toList)) n = m := ⟨_, rfl⟩
      rw [hdn] at hc1 hTj hJ
      have hfr : Fr (fun b => b = w2.heap.size) wr w4 := (Fr.refl (fun b => b = w2.heap.size) wr).grown hg1 (fun k hk => .inl (Option.some.inj hk).symm)
      have hni := noc_iter hI.rg
      have hrm : w2.heap.size ≠ L.m := fun e' => by
        obtain ⟨n0, -, Dm, ⟨es, cl, hh, -⟩, -⟩ := hI.tb.mp
        exact hni.2.1 es cl (by rw [e']; exact hh)
      have tb4 := tb_fr hI.tb hfr (fun b hb => by rw [hb]; exact notTb_map hI.tb hni.1 hrm)
      have hni4 := noc_iter hrg1
      have hnr4 := tbS_cells (notTb_map tb4 hni4.1 hrm)
      have hnf4 := tbS_cells (notTb_map tb4 hni4.2.2 (HH.out.ne.2 k e0 he).1)
      have hbk := (HM2.out.bk.fr hI.fr (tbS_cells (notTb_dir HM2.out.tb HM2.out.bk)))
      have hbk4 := hbk.fr hfr (fun e' => noc_blk hbk hni.1 e'.symm)
      have c0 := hbk4.cell (i := 0) rfl
      have hnj := hI.nj
      have hkn := HH.out.klt hxT
      have HI := hidd hI
      have HJ := hidd hJ
      have HX := hidd (⟨hnr4, hnf4⟩ : ¬ tbS L.p L.r L.rs L.m Tj w2.heap.size ∧ ¬ tbS L.p L.r L.rs L.m Tj e0.fm)
      have hF4 : Fr (tbS L.p L.r L.rs L.m s.T) w2 w4 := hI.fr.trans' hfr (fun _ _ h => h) (fun b hb e' => by have e2 : b = w2.heap.size := e'; omega)
      have HF4 := hidd hF4
      have HRG := hidd hrg1
      by_cases h1 : xx.links - dn = 1
      · have hul := unlink_last L.B L.t L.p L.r L.ps L.rs L.m Nj Tj uj s.ls n { xx with links := xx.links - dn } w4 tb4 (by omega) hTj h1
        have HUL := hidd hul
        clear hul hI hJ hnr4 hnf4 hbk hbk4 hfr tb4 hF4 hrg1 hni hni4 hat hkl hvc hx1 hxs hxd hd hd' hdn hg1
        go_wp2_with fail
        refine HUL.out.mono ?_
        rintro e w5 ⟨rfl, ht5, hf5⟩
        have rg5 := ranges_fr HRG.out hf5 HX.out.2 HX.out.1
        have HL : Hid (DrL pc L s e0 vals D w2.heap.size w2 (fun z => left z && !z.sameKey (.string x.data.toList)) cnt1 (upd Tj n none) (giv uj xx.bl) Nj w5) := hidd {
          rg := rg5
          tb := ht5
          nj := ⟨by omega, hnj.2⟩
          j := by have := HJ.out; rw [if_pos h1] at this; exact this
          fr := HF4.out.trans' hf5 (fun _ _ h => h) (fun b _ hb => HI.out.sub b hb)
          sub := fun b hb => HI.out.sub b (tbS_drop hb) }
        clear ht5 hf5
        go_wp2_with fail
        go_roundw
        case rel => exact ⟨_, _, _, _, _, HL.out⟩
        case measure => rw [rg5.left_eq, HI.out.rg.left_eq]; exact hlt
      · have hul := unlink_more L.B L.t L.p L.r L.ps L.rs L.m Nj Tj uj s.ls n { xx with links := xx.links - dn } w4 tb4 (by omega) (by omega) hTj (xx.links - dn - 1) (by show xx.links - dn = _; omega) (by omega)
        have HUL := hidd hul
        have HTJ := hidd hTj
        clear hul hI hJ hnr4 hnf4 hbk hbk4 hfr tb4 hF4 hrg1 hni hni4 hat hkl hvc hx1 hxs hxd hd hd' hdn hg1 hTj
        go_wp2_with fail
        refine HUL.out.mono ?_
        rintro e w5 ⟨rfl, ht5, hf5⟩
        have rg5 := ranges_fr HRG.out hf5 HX.out.2 HX.out.1
        have HL : Hid (DrL pc L s e0 vals D w2.heap.size w2 (fun z => left z && !z.sameKey (.string x.data.toList)) cnt1 (upd Tj n (some { xx with links := xx.links - dn - 1 })) uj (Nj + 1) w5) := hidd {
          rg := rg5
          tb := ht5
          nj := ⟨by omega, by omega⟩
          j := by have := HJ.out; rw [if_neg h1] at this; exact this
          fr := HF4.out.trans' hf5 (fun _ _ h => h) (fun b _ hb => HI.out.sub b hb)
          sub := fun b hb => HI.out.sub b (tbS_relink HTJ.out _ hb) }
        clear ht5 hf5
        go_wp2_with fail
        go_roundw
        case rel => exact ⟨_, _, _, _, _, HL.out⟩
        case measure => rw [rg5.left_eq, HI.out.rg.left_eq]; exact hlt
end Go.Proofs.YtoemahhpheobkaaGreatDoor

namespace Go.Proofs.YtoemahhpheobkaaGreatDoor
open Go.RowKit Go.Shelf

/-- What Trees gives. -/
def TsP (D : Nat → Option Dt) (w : World) (e : Ending) (w' : World) : Prop := ∃ (kl : List Nat) (a : Option Addr) (cap : Nat), (kl.Pairwise (· < ·) ∧ ∀ k, k ∈ kl ↔ (D k).isSome = true) ∧ kl.length ≤ 1000000 ∧ e = .returned (.slice a kl.length cap) ∧ Sl w' (.slice a kl.length cap) (ints kl) kl.length 1 ∧ Below w.heap.size w w'
theorem keysd_call (m : Nat) (W : World) : Calls Tryz.prog 38 #[.map (some m)] W fun e w' => e = .returned (.func (.func 71) #[] #[.pointer (some ⟨W.heap.size, 0, none⟩)]) ∧ w' = W.alloc (.cells #[.map (some m)] 76) :=
  callsIn_wide.1 (Tryz.maps_Keys_38 (some m) W)
theorem sortedd_call (vals : List Value) (m n : Nat) (f : Int → Option Value) (w : World) (h : MapV vals w m n f) (hn : n ≤ 1000000) :
    Calls Tryz.prog 37 #[.func (.func 71) #[] #[.pointer (some ⟨w.heap.size, 0, none⟩)]] (w.alloc (.cells #[.map (some m)] 76)) fun e w' => ∃ (v : Value) (zs : List Int), e = .returned v ∧ zs.Pairwise (· < ·) ∧
      (∀ x ∈ zs, -9223372036854775808 ≤ x ∧ x ≤ 9223372036854775807) ∧ (∀ x, -9223372036854775808 ≤ x ∧ x ≤ 9223372036854775807 → (x ∈ zs ↔ (f x).isSome = true)) ∧ zs.length ≤ n ∧ Sl w' v (icells zs) zs.length 1 ∧ Below w.heap.size w w' := by
  obtain ⟨D, hD, hnd, hrg, hks, hsz, hlen⟩ := h.keys
  refine (callsIn_wide.1 (Tryz.slices_Sorted_keys_37_38 m n D _ w hD (by unfold maxLen; omega) (by omega))).mono ?_
  rintro e w' ⟨v, ss, rfl, hp, hrow, hnil, hb⟩
  have tr : ∀ a b c : Int, decide (a ≤ b) = true → decide (b ≤ c) = true → decide (a ≤ c) = true := fun a b c h1 h2 => by simp only [decide_eq_true_eq] at *; omega
  have tot : ∀ a b : Int, (decide (a ≤ b) || decide (b ≤ a)) = true := fun a b => by simp only [Bool.or_eq_true, decide_eq_true_eq]; omega
  have hpm := List.mergeSort_perm ss (fun x y => decide (x ≤ y))
  have hnd2 : (ss.mergeSort (fun x y => decide (x ≤ y))).Nodup := hpm.nodup_iff.2 (hp.nodup_iff.2 hnd)
  have hpw := List.pairwise_mergeSort (le := fun x y : Int => decide (x ≤ y)) tr tot ss
  refine ⟨v, ss.mergeSort (fun x y => decide (x ≤ y)), rfl, ?_, fun x hx => hrg x (hp.mem_iff.1 (hpm.mem_iff.1 hx)), fun x hx => ?_, by rw [List.length_mergeSort, hp.length_eq]; exact hlen, ?_, ((Below.refl _ _).alloc (Nat.le_refl _) _).trans (hb.mono (by simp))⟩
  · refine (hpw.and hnd2).imp ?_
    rintro a b ⟨h1, h2⟩
    simp only [decide_eq_true_eq] at h1
    omega
  · rw [hpm.mem_iff, hp.mem_iff, hks x hx]
  · have := Sl.of_owns hrow
    rw [List.length_mergeSort]
    exact this
set_option maxRecDepth 100000 in
set_option maxHeartbeats 4000000 in
theorem dtrees_any {pc : Prop} (L : Loc) (s : St) (w : World) (h : DiM pc w L s) (hN : s.nm ≤ 1000000) (hX : s.nx ≤ 1000000) :
    Calls Tryz.prog 13 #[.pointer (some ⟨L.d, 0, none⟩)] w (TsP s.D w) := by
  obtain ⟨vals, h0, hm⟩ := h.mp
  have hc2 := h.c1
  have HSO := hidd (sortedd_call vals L.mb s.nm (dmF s.D) w hm (by omega))
  have HF := hidd h.far
  clear h hm
  go_enter Tryz.func13, Tryz.ntmps13
  go_wp2_with fail
  refine (keysd_call L.mb _).mono ?_
  rintro e w1 ⟨rfl, rfl⟩
  go_wp2_with fail
  refine HSO.out.mono ?_
  rintro e w2 ⟨v, zs, rfl, hpw, hrg, hmem, hzl, hsl, hb⟩
  have hnn : ∀ x ∈ zs, 0 ≤ x := fun x hx => by
    have h1 := (hmem x (hrg x hx)).1 hx
    by_cases h0 : 0 ≤ x
    · exact h0
    · simp [dmF, h0] at h1
  have hzs : zs = (zs.map Int.toNat).map fun (j : Nat) => (j : Int) := by
    rw [List.map_map]
    refine Eq.trans (List.map_id zs).symm (List.map_congr_left (fun x hx => ?_))
    have := hnn x hx
    simp only [Function.comp_apply, id_eq]
    omega
  have hP : TsP s.D w (.returned v) w2 := by
    obtain ⟨a, cap, hv, -⟩ := id hsl
    refine ⟨zs.map Int.toNat, a, cap, ⟨?_, fun k => ?_⟩, by rw [List.length_map]; omega, by rw [List.length_map, hv], ?_, hb⟩
    · refine List.pairwise_map.2 (hpw.imp_of_mem fun {x y} hx hy hxy => ?_)
      have := hnn x hx
      omega
    · rw [List.mem_map]
      constructor
      · rintro ⟨x, hx, rfl⟩
        have h1 := (hmem x (hrg x hx)).1 hx
        simpa [dmF, hnn x hx] using h1
      · intro hk
        have hkK : k < s.nx := by
          by_cases hlt : k < s.nx
          · exact hlt
          · rw [HF.out k (by omega)] at hk; cases hk
        refine ⟨(k : Int), (hmem _ (by omega)).2 ?_, by simp⟩
        simpa [dmF] using hk
    · rw [List.length_map, ← hv, ints_icells, ← hzs]
      exact hsl
  have HP := hidd hP
  clear hP hsl hb hmem hrg hpw hzs HSO HF hnn
  go_wp2_with fail
  go_ret
  exact HP.out
end Go.Proofs.YtoemahhpheobkaaGreatDoor

namespace Go.Proofs.YtoemahhpheobkaaGreatDoor
open Go.RowKit Go.Shelf

/-- How often a number stands in a list. -/
def cntL (l : List Nat) (n : Nat) : Nat := (l.filter fun m => decide (m = n)).length
theorem cntL_app (a b : List Nat) (n : Nat) : cntL (a ++ b) n = cntL a n + cntL b n := by unfold cntL; rw [List.filter_append, List.length_append]
theorem cntL_snoc (a : List Nat) (m n : Nat) : cntL (a ++ [m]) n = cntL a n + if m = n then 1 else 0 := by
  rw [cntL_app]
  congr 1
  unfold cntL
  by_cases h : m = n <;> simp [h]
theorem cntL_take (l : List Nat) (n k : Nat) (hk : k < l.length) : cntL (l.take (k + 1)) n = cntL (l.take k) n + if l[k] = n then 1 else 0 := by
  rw [List.take_succ_eq_append_getElem hk, cntL_snoc]
/-- The inodes of a tree's files. -/
def inosE (o : Option Dt) : List Nat := match o with | some e => e.fl.map fun q => (e.F q).getD 0 | none => []
theorem inosE_cnt {e : Dt} (hw : e.Well) (n : Nat) : cntL (inosE (some e)) n = cntE (some e) n := by
  unfold cntL inosE cntE
  simp only
  rw [List.filter_map, List.length_map]
  congr 1
  apply List.filter_congr
  intro q hq
  have h1 := (hw.dom q).2 hq
  simp only [Function.comp_apply]
  cases hF : e.F q with
  | none => rw [hF] at h1; cases h1
  | some m => simp
/-- The trees' numbers. -/
def keysD (D : Nat → Option Dt) (K : Nat) : List Nat := (List.range K).filter fun i => (D i).isSome
/-- The inodes of all files. -/
def inosD (D : Nat → Option Dt) (kl : List Nat) : List Nat := kl.flatMap fun k => inosE (D k)
theorem inosD_cnt {D : Nat → Option Dt} (hw : ∀ k e, D k = some e → e.Well) (n : Nat) : ∀ K, cntL (inosD D (keysD D K)) n = refsN D n K
  | 0 => rfl
  | K + 1 => by
    have ih := inosD_cnt hw n K
    unfold inosD keysD at ih ⊢
    rw [List.range_succ, List.filter_append, List.flatMap_append, cntL_app, ih, refsN, List.filter_cons, List.filter_nil]
    congr 1
    cases h : D K with
    | none => simp [cntL, cntE]
    | some e =>
      simp only [Option.isSome_some, if_true, List.flatMap_cons, List.flatMap_nil, List.append_nil]
      rw [h]
      exact inosE_cnt (hw K e h) n
theorem keysD_keys {D : Nat → Option Dt} {K : Nat} (h : ∀ k, K ≤ k → D k = none) : (keysD D K).Pairwise (· < ·) ∧ ∀ k, k ∈ keysD D K ↔ (D k).isSome = true := by
  refine ⟨List.Pairwise.filter _ List.pairwise_lt_range, fun k => ?_⟩
  unfold keysD
  rw [List.mem_filter, List.mem_range]
  constructor
  · exact fun h => h.2
  · intro hk
    refine ⟨?_, hk⟩
    rcases Nat.lt_or_ge k K with h1 | h1
    · exact h1
    · rw [h k h1] at hk; cases hk
theorem keysD_one {D : Nat → Option Dt} {a b : List Nat} (h : a.Pairwise (· < ·) ∧ ∀ k, k ∈ a ↔ (D k).isSome = true) (k : b.Pairwise (· < ·) ∧ ∀ k, k ∈ b ↔ (D k).isSome = true) : a = b := by
  have hm : ∀ x, x ∈ a ↔ x ∈ b := fun x => by rw [h.2, k.2]
  have ha : a.Nodup := h.1.imp fun q => Nat.ne_of_lt q
  have hb : b.Nodup := k.1.imp fun q => Nat.ne_of_lt q
  exact List.Perm.eq_of_pairwise (le := fun x y : Nat => x < y) (fun x y _ _ h1 h2 => absurd h1 (by omega)) h.1 k.1 ((List.perm_ext_iff_of_nodup ha hb).2 hm)
/-- What is counted at the end of DirsLinks. -/
theorem links_end {pc : Prop} {w : World} {L : Loc} {s : St} (h : DiAt pc w L s) {kl : List Nat} (hkl : kl.Pairwise (· < ·) ∧ ∀ k, k ∈ kl ↔ (s.D k).isSome = true) {n : Nat} {x : Ino} (hx : s.T n = some x) : cntL (inosD s.D kl) n = x.links ∧ 1 ≤ x.links := by
  have e := keysD_one hkl (keysD_keys h.far)
  rw [e, inosD_cnt h.well, ← h.lnk n, hx]
  exact ⟨rfl, (h.tb.ok n x hx).pos⟩
/-- A tree's numbers of inodes, file by file. -/
theorem inosE_at {e : Dt} {i : Nat} (hi : i < e.fl.length) {n : Nat} (hF : e.F e.fl[i] = some n) : inosE (some e) = e.fl.map (fun q => (e.F q).getD 0) ∧ ((e.fl.map fun q => (e.F q).getD 0).take (i + 1)) = ((e.fl.map fun q => (e.F q).getD 0).take i) ++ [n] := by
  refine ⟨rfl, ?_⟩
  have hl : i < (e.fl.map fun q => (e.F q).getD 0).length := by rw [List.length_map]; exact hi
  rw [List.take_succ_eq_append_getElem hl, List.getElem_map, hF]
  rfl
end Go.Proofs.YtoemahhpheobkaaGreatDoor
