/- Acts on trees in memory; longTrees. Condition: the acts are there. · DirsLinks: what is kept between two acts. Condition: the dirs are there. · DirsLinks: a Put between two acts, and the append of what was put. Condition: the dirs are there. -/
import Derived.Test.YtoemahhpheobkaaGreatDoorDiF
import Derived.Test.YtoemahhpheobkaaGreatDoorDlD
namespace Go.Proofs.YtoemahhpheobkaaGreatDoor
open Go.RowKit Go.Shelf

/-- An act on trees. -/
structure Ta where
  (kind path s : ByteArray)
  n : Lt
  (k m bit : Int)
def tacell (c : Ta) : List Value := [.string c.kind, .string c.path, .string c.s, .string c.n.kind, .string c.n.data, .bool c.n.exec, c.n.v, .int .i64 c.k, .int .i64 c.m, .int .i64 c.bit]
def tacells (l : List Ta) : List Value := l.flatMap tacell
theorem tacells_len (l : List Ta) : (tacells l).length = l.length * 10 := by
  induction l with
  | nil => rfl
  | cons x r ih =>
    have e : tacells (x :: r) = tacell x ++ tacells r := rfl
    rw [e, List.length_append, ih, List.length_cons]
    show 10 + _ = _
    omega
theorem tacells_at : ∀ (l : List Ta) (i : Nat) (h : i < l.length) (j : Nat), j < 10 → (tacells l)[i * 10 + j]? = (tacell l[i])[j]?
  | x :: l, 0, h, j, hj => by
    have e : tacells (x :: l) = tacell x ++ tacells l := rfl
    rw [e, Nat.zero_mul, Nat.zero_add, List.getElem?_append_left (by show j < 10; exact hj)]
    rfl
  | x :: l, i + 1, h, j, hj => by
    have e : tacells (x :: l) = tacell x ++ tacells l := rfl
    have h1 := tacells_at l i (by simpa using h) j hj
    rw [e, List.getElem?_append_right (by show 10 ≤ _; omega)]
    show (tacells l)[(i + 1) * 10 + j - 10]? = _
    rw [show (i + 1) * 10 + j - 10 = i * 10 + j by omega, h1]
    rfl
/-- Acts as a slice. -/
structure TaI (l : List Ta) (v : Value) (W : World) : Prop where
  sl : Sl W v (tacells l) l.length 10
  ok : ∀ c ∈ l, c.n.Ok W
  num : ∀ c ∈ l, K64 c.k ∧ K64 c.m
theorem TaI.ob {l : List Ta} {v : Value} {W W' : World} (h : TaI l v W) (hb : Below W.heap.size W W') : TaI l v W' := ⟨h.sl.ob hb (Nat.le_refl _), fun c hc => (h.ok c hc).ob hb, h.num⟩
theorem sl_ta {w : World} {a : Option Addr} {n cap : Nat} {l : List Ta} (h : Sl w (.slice a n cap) (tacells l) l.length 10) {i : Nat} (hi : i < l.length) :
    ∃ b off, a = some ⟨b, off, none⟩ ∧ b < w.heap.size ∧ w.cell? ⟨b, off + i * 10, none⟩ = some (.string l[i].kind) ∧ w.cell? ⟨b, off + i * 10 + 1, none⟩ = some (.string l[i].path) ∧ w.cell? ⟨b, off + i * 10 + 2, none⟩ = some (.string l[i].s) ∧
      w.cell? ⟨b, off + i * 10 + 3, none⟩ = some (.string l[i].n.kind) ∧ w.cell? ⟨b, off + i * 10 + 4, none⟩ = some (.string l[i].n.data) ∧ w.cell? ⟨b, off + i * 10 + 5, none⟩ = some (.bool l[i].n.exec) ∧ w.cell? ⟨b, off + i * 10 + 6, none⟩ = some l[i].n.v ∧
      w.cell? ⟨b, off + i * 10 + 7, none⟩ = some (.int .i64 l[i].k) ∧ w.cell? ⟨b, off + i * 10 + 8, none⟩ = some (.int .i64 l[i].m) ∧ w.cell? ⟨b, off + i * 10 + 9, none⟩ = some (.int .i64 l[i].bit) := by
  obtain ⟨a', cap', he, h1, h2, h2', h3⟩ := h
  simp only [Value.slice.injEq] at he
  obtain ⟨rfl, rfl, rfl⟩ := he
  rcases h3 with h3 | ⟨b, off, rfl, h4, h5⟩
  · omega
  · have hl := tacells_len l
    have key : ∀ j, j < 10 → ∀ u, (tacell l[i])[j]? = some u → w.cell? ⟨b, off + (i * 10 + j), none⟩ = some u := fun j hj u hu => by
      have h6 := tacells_at l i hi j hj
      rw [hu] at h6
      rw [h5 _ (by omega)]
      rw [List.getElem?_eq_getElem (by omega)] at h6
      exact h6
    refine ⟨b, off, rfl, h4, key 0 (by omega) _ rfl, ?_, ?_, ?_, ?_, ?_, ?_, ?_, ?_, ?_⟩
    · rw [Nat.add_assoc]; exact key 1 (by omega) _ rfl
    · rw [Nat.add_assoc]; exact key 2 (by omega) _ rfl
    · rw [Nat.add_assoc]; exact key 3 (by omega) _ rfl
    · rw [Nat.add_assoc]; exact key 4 (by omega) _ rfl
    · rw [Nat.add_assoc]; exact key 5 (by omega) _ rfl
    · rw [Nat.add_assoc]; exact key 6 (by omega) _ rfl
    · rw [Nat.add_assoc]; exact key 7 (by omega) _ rfl
    · rw [Nat.add_assoc]; exact key 8 (by omega) _ rfl
    · rw [Nat.add_assoc]; exact key 9 (by omega) _ rfl
/-- An act that a statement looks at. -/
def TaS (c : Ta) : Prop := c.n.sz ≤ 40 ∧ c.path.size ≤ 100 ∧ c.s.size ≤ 120
theorem large_num40 (t : Lt) : ∃ r : Int, (0 ≤ r ∧ r ≤ 1) ∧ (r = 0 → t.sz ≤ 40) ∧ Hid (∀ W, t.Ok W → Calls Tryz.prog 28 #[nval t, .int .i64 40] W fun e w' => e = .returned (.int .i64 r) ∧ Below W.heap.size W w') := by
  by_cases h : SmallL 40 t
  · exact ⟨0, by omega, fun _ => h.small.many, hidd (fun W ht => (large_fn t 40 W ht (by omega)).mono fun _ _ ⟨k, hb⟩ => ⟨k.elim (fun k => k.1) (fun k => absurd h k.2), hb⟩)⟩
  · exact ⟨1, by omega, fun e => by omega, hidd (fun W ht => (large_fn t 40 W ht (by omega)).mono fun _ _ ⟨k, hb⟩ => ⟨k.elim (fun k => absurd k.2 h) (fun k => k.1), hb⟩)⟩
def LtP (ls : List Ta) (w : World) (e : Ending) (w' : World) : Prop := (∃ r : Bool, e = .returned (.bool r) ∧ (r = false → ls.length ≤ 25 ∧ ∀ c ∈ ls, TaS c)) ∧ Below w.heap.size w w'

set_option maxRecDepth 100000 in
set_option maxHeartbeats 8000000 in
theorem longTrees_any (v : Value) (ls : List Ta) (w : World) (hv : TaI ls v w) : Calls Tryz.prog 6 #[v] w (LtP ls w) := by
  obtain ⟨va, vc, rfl, -⟩ := id hv.sl
  have hl1 := hv.sl.le
  by_cases h20 : ls.length ≤ 25
  · have HV := hidd (fun W (h : Below w.heap.size w W) => hv.ob h)
    have e0 : decide ((25 : Int) < (ls.length : Int)) = false := decide_eq_false (by omega)
    clear hv
    go_enter Tryz.func6, Tryz.ntmps6
    go_wp2_with fail
    go_loopw [3] (fun vi wr => ∃ i : Nat, i ≤ ls.length ∧ vi = .int .i64 (i : Int) ∧ (∀ c ∈ ls.take i, TaS c) ∧ Below w.heap.size w wr) (fun vi _ => ls.length - (intOf vi).toNat)
    case atStart => exact ⟨0, Nat.zero_le _, rfl, (fun c hc => by cases hc), Below.refl _ _⟩
    case round =>
      obtain ⟨i, hi, rfl, hall, hbel⟩ := hrel
      by_cases hlt : i < ls.length
      · have hV := HV.out wr hbel
        obtain ⟨b1, o1, rfl, hb1, a0, a1, a2, a3, a4, a5, a6, -⟩ := sl_ta hV.sl hlt
        have hco := hV.ok _ (List.getElem_mem hlt)
        have htk : ls.take (i + 1) = ls.take i ++ [ls[i]] := List.take_succ_eq_append_getElem hlt
        obtain ⟨c, hc⟩ : ∃ c, ls[i] = c := ⟨_, rfl⟩
        rw [hc] at a0 a1 a2 a3 a4 a5 a6 hco htk
        have HNX : Hid (TaS c → ∀ x ∈ ls.take (i + 1), TaS x) := hidd (fun h x hx => by
          rw [htk] at hx
          rcases List.mem_append.1 hx with hx | hx
          · exact hall x hx
          · simp only [List.mem_cons, List.not_mem_nil, or_false] at hx; subst hx; exact h)
        clear hc hV htk hall a0
        have p1 : (0 : Int) ≤ (i : Int) := by omega
        have p2 : (i : Int) < (ls.length : Int) := by omega
        have hbw := hbel.size
        obtain ⟨r, hr, hr0, HLR⟩ := large_num40 c.n
        have HC := hidd (HLR.out wr hco)
        obtain ⟨na, nc, hnv⟩ := hco.shape
        obtain ⟨kc, pc, sc, ⟨kn, dn, en, vn, ksn⟩, kk, mm, bb⟩ := c
        simp only [Tr.v, Tr.kids, Tr.kind, Tr.data, Tr.exec] at hnv a1 a2 a3 a4 a5 a6
        subst hnv
        simp only [nval, Tr.kind, Tr.data, Tr.exec, Tr.v] at HC
        have HC1 := hidd (fun W (hb : Below wr.heap.size wr W) => (⟨(hb.cell (p := ⟨b1, o1 + i * 10 + 1, none⟩) hb1).trans a1, (hb.cell (p := ⟨b1, o1 + i * 10 + 2, none⟩) hb1).trans a2⟩ : W.cell? ⟨b1, o1 + i * 10 + 1, none⟩ = some (.string pc) ∧ W.cell? ⟨b1, o1 + i * 10 + 2, none⟩ = some (.string sc)))
        clear hco HLR
        by_cases hrz : r = 0
        · have e3 : decide (0 < r) = false := decide_eq_false (by omega)
          have hsz := hr0 hrz
          by_cases hp : pc.size ≤ 100
          · have e2 : decide ((100 : Int) < (pc.size : Int)) = false := decide_eq_false (by omega)
            by_cases hs : sc.size ≤ 120
            · have e1 : decide ((120 : Int) < (sc.size : Int)) = false := decide_eq_false (by omega)
              have HOK : Hid (TaS ⟨kc, pc, sc, .mk kn dn en (.slice na ksn.length nc) ksn, kk, mm, bb⟩) := hidd ⟨hsz, hp, hs⟩
              clear hp hrz hsz hs hr hr0
              go_wp2_with fail
              refine HC.out.mono ?_
              rintro e w5 ⟨rfl, hb5⟩
              obtain ⟨d1, d2⟩ := HC1.out w5 hb5
              have HB5 := hidd (hbel.trans (hb5.mono hbw))
              clear hb5 a1 a2 a3 a4 a5 a6 hbel
              go_wp2_with fail
              go_roundw
              case rel => exact ⟨i + 1, by omega, by go_num, HNX.out HOK.out, HB5.out⟩
              case measure => simp [intOf]; omega
            · have e1 : decide ((120 : Int) < (sc.size : Int)) = true := decide_eq_true (by omega)
              clear hp hrz hsz hs hr hr0
              go_wp2_with fail
              refine HC.out.mono ?_
              rintro e w5 ⟨rfl, hb5⟩
              obtain ⟨d1, d2⟩ := HC1.out w5 hb5
              have HB5 := hidd (hbel.trans (hb5.mono hbw))
              clear hb5 a1 a2 a3 a4 a5 a6 hbel
              go_wp2_with fail
              go_ret
              exact ⟨⟨true, rfl, fun h => by cases h⟩, HB5.out⟩
          · have e2 : decide ((100 : Int) < (pc.size : Int)) = true := decide_eq_true (by omega)
            clear hp hrz hsz hr hr0
            go_wp2_with fail
            refine HC.out.mono ?_
            rintro e w5 ⟨rfl, hb5⟩
            obtain ⟨d1, d2⟩ := HC1.out w5 hb5
            have HB5 := hidd (hbel.trans (hb5.mono hbw))
            clear hb5 a1 a2 a3 a4 a5 a6 hbel
            go_wp2_with fail
            go_ret
            exact ⟨⟨true, rfl, fun h => by cases h⟩, HB5.out⟩
        · have e3 : decide (0 < r) = true := decide_eq_true (by omega)
          clear hrz hr hr0
          go_wp2_with fail
          refine HC.out.mono ?_
          rintro e w5 ⟨rfl, hb5⟩
          have HB5 := hidd (hbel.trans (hb5.mono hbw))
          clear hb5 a1 a2 a3 a4 a5 a6 hbel
          go_wp2_with fail
          go_ret
          exact ⟨⟨true, rfl, fun h => by cases h⟩, HB5.out⟩
      · have HF : Hid (LtP ls w (.returned (.bool false)) wr) := hidd ⟨⟨false, rfl, fun _ => ⟨h20, by rw [show i = ls.length by omega, List.take_of_length_le (Nat.le_refl _)] at hall; exact hall⟩⟩, hbel⟩
        have p2 : ¬ ((i : Int) < (ls.length : Int)) := by omega
        clear hall hbel
        go_wp2_with fail
        go_ret
        exact HF.out
  · have e0 : decide ((25 : Int) < (ls.length : Int)) = true := decide_eq_true (by omega)
    clear hv
    go_enter Tryz.func6, Tryz.ntmps6
    go_wp2_with fail
    go_ret
    exact ⟨⟨true, rfl, fun h => by cases h⟩, Below.refl _ _⟩
end Go.Proofs.YtoemahhpheobkaaGreatDoor

namespace Go.Proofs.YtoemahhpheobkaaGreatDoor
open Go.RowKit Go.Shelf

def ndcells (l : List Lt) : List Value := l.flatMap ncells
theorem ndcells_len (l : List Lt) : (ndcells l).length = l.length * 4 := by
  induction l with
  | nil => rfl
  | cons x r ih =>
    have e : ndcells (x :: r) = ncells x ++ ndcells r := rfl
    rw [e, List.length_append, ih, List.length_cons]
    show 4 + _ = _
    omega
/-- What a Put leaves, whether or not it is one; and where it writes. -/
def PuY (L : Loc) (s : St) (t : Lt) (w : World) (e : Ending) (w' : World) : Prop :=
  Fr (diS L s) w w' ∧ ∃ (v : Int) (c : Value) (s' : St), e = .returned (.tuple #[.int .i64 v, c]) ∧ DiAt True w' L s' ∧ s'.N ≤ s.N + 200 ∧ s'.nm ≤ s.nm + 1 ∧ (∀ b, diS L s' b → diS L s b ∨ w.heap.size ≤ b) ∧
    (((∃ a, c = .iface 249 a) ∧ s'.nx = s.nx ∧ s'.D = s.D) ∨ (c = .nilIface ∧ v = (s.nx : Int) ∧ s'.nx = s.nx + 1 ∧ treeE t = 0 ∧ ∃ e', e'.src = t.bare ∧ e'.tr.In (fun b => w.heap.size ≤ b) ∧ s'.D = updD s.D s.nx (some e')))
theorem dput_any2 (E : Nat → Addr) (B : Nat) (L : Loc) (s : St) (t : Lt) (w : World) (ht : t.Ok w) (hti : t.In (fun b => ¬ diS L s b)) (h : DiAt True w L s) (hE : Env diGs B w E) (hEB : B ≤ L.B) (hM : Ml w) (hMl : 10 < L.B) (hLB : L.B ≤ w.heap.size) (hN : s.N ≤ 500000) (hnm : s.nm ≤ 500000) (hnx : s.nx ≤ 500000) :
    Calls Tryz.prog 8 #[.pointer (some ⟨L.d, 0, none⟩), nval t] w (PuY L s t w) := by
  by_cases h0 : treeE t = 0
  · by_cases hf : needS (listed t) ≤ nfree s.us
    · refine (dput_ok E B L s t w ht hti h hE hEB hM hMl hLB hN hnm hnx h0 hf).mono ?_
      rintro e w' ⟨rfl, hfr, e', s1, h1, hin, h2, h3, h4, h5, h6, h7, h8, h9⟩
      have := filesR_le h0
      refine ⟨hfr, (s.nx : Int), .nilIface, putS s1 e', rfl, h8, ?_, ?_, h9, .inr ⟨rfl, rfl, ?_, h0, e', h1, hin, ?_⟩⟩
      · show s1.N ≤ s.N + 200; omega
      · show s1.nm + 1 ≤ s.nm + 1; omega
      · show s1.nx + 1 = s.nx + 1; omega
      · show updD s1.D s1.nx (some e') = _; rw [h2, h3]
    · refine (dput_full E B L s t w ht h.toDiM hE h0 (by omega)).mono ?_
      rintro e w' ⟨rfl, hb⟩
      exact ⟨Fr.ob hb, 0, _, s, rfl, h.low hb, by omega, by omega, fun _ h => .inl h, .inl ⟨⟨_, rfl⟩, rfl, rfl⟩⟩
  · refine (dput_bad E B _ t w ht hE h0).mono ?_
    rintro e w' ⟨rfl, hb⟩
    exact ⟨Fr.ob hb, 0, _, s, rfl, h.low hb, by omega, by omega, fun _ h => .inl h, .inl ⟨⟨_, evc_ne h0⟩, rfl, rfl⟩⟩
/-- Between two acts. -/
structure DlK (w3 : World) (L : Loc) (P : List Lt) (pv : Value) (nb : Nat) (s : St) (W : World) : Prop where
  di : DiAt True W L s
  bel : Below L.B w3 W
  rows : Ow (fun g => L.B ≤ g ∧ ¬ diS L s g) W 32 4 pv P.length (ndcells P)
  nx : s.nx = P.length
  src : ∀ k e, s.D k = some e → ∃ h : k < P.length, e.src = P[k].bare
  pok : ∀ c ∈ P, c.Ok w3
  tr : ∀ k e, s.D k = some e → e.tr.In (fun b => pv.ownBlock ≠ some b)
  N : s.N ≤ nb
  nm : s.nm ≤ nb
section
variable {w3 : World} {L : Loc} {P : List Lt} {pv : Value} {nb : Nat} {s s' : St} {W W' : World}
theorem DlK.later (h : DlK w3 L P pv nb s W) (hL : L.B ≤ w3.heap.size) (hb : Below W.heap.size W W') : DlK w3 L P pv nb s W' :=
  { h with di := h.di.low hb, bel := h.bel.trans (hb.mono (Nat.le_trans hL h.bel.size)), rows := h.rows.ob hb }
/-- An act that keeps the trees' sources. -/
theorem DlK.act (h : DlK w3 L P pv nb s W) (hL : L.B ≤ w3.heap.size) (hf : Fr (diS L s) W W') (hd : DiAt True W' L s') (hS : ∀ b, diS L s' b → diS L s b ∨ W.heap.size ≤ b) (hnx : s'.nx = s.nx) (hsrc : ∀ k e, s'.D k = some e → ∃ f, s.D k = some f ∧ e.src = f.src ∧ e.tr = f.tr) (hN : s'.N ≤ nb + 300) (hnm : s'.nm ≤ nb + 300) : DlK w3 L P pv (nb + 300) s' W' where
  di := hd
  bel := h.bel.trans (hf.below (Nat.le_trans hL h.bel.size) h.di.toDiM.baseS)
  rows := by
    have h1 := h.rows.fr hf (fun g hg hd => (h.rows.blk g hg).1.2 hd)
    refine ⟨h1.1, ?_⟩
    rcases h1.2 with h2 | ⟨g, o, cap, cur, e1, e2, e3, rest⟩
    · exact .inl h2
    · refine .inr ⟨g, o, cap, cur, e1, ⟨e2.1, fun hb => ?_⟩, e3, rest⟩
      rcases hS g hb with h3 | h3
      · exact e2.2 h3
      · have h4 := (h.rows.blk g (by rw [e1]; rfl)).2
        omega
  nx := by rw [hnx]; exact h.nx
  src := fun k e he => by
    obtain ⟨f, hf', h2, -⟩ := hsrc k e he
    obtain ⟨h3, h4⟩ := h.src k f hf'
    exact ⟨h3, h2.trans h4⟩
  pok := h.pok
  tr := fun k e he => by
    obtain ⟨f, hf', -, h2⟩ := hsrc k e he
    rw [h2]
    exact h.tr k f hf'
  N := hN
  nm := hnm
theorem DlK.drop (h : DlK w3 L P pv nb s W) (hL : L.B ≤ w3.heap.size) {k : Nat} {e : Ending} (hP : DrP True L s k W e W') : e = .returned .nilIface ∧ ∃ s', DlK w3 L P pv (nb + 300) s' W' := by
  obtain ⟨rfl, hf, T', us', hd, hb⟩ := hP
  have h1 := h.N
  have h2 := h.nm
  refine ⟨rfl, _, h.act hL hf hd (fun b hbb => .inl ?_) rfl (fun i f hi => ?_) (by show s.N + 300 ≤ nb + 300; omega) (by show s.nm ≤ nb + 300; omega)⟩
  · rcases hbb with (hbb | hbb | hbb | hbb | ⟨i, y, hy, hbb⟩) | hbb | hbb | ⟨i, f, hi, hbb⟩
    · exact .inl (.inl hbb)
    · exact .inl (.inr (.inl hbb))
    · exact .inl (.inr (.inr (.inl hbb)))
    · exact .inl (.inr (.inr (.inr (.inl hbb))))
    · obtain ⟨x, hx, -, -, -, g4⟩ := hb i y hy
      exact .inl (.inr (.inr (.inr (.inr ⟨i, x, hx, by rw [hbb, g4]⟩))))
    · exact .inr (.inl hbb)
    · exact .inr (.inr (.inl hbb))
    · rcases updD_cases hi with ⟨-, h1⟩ | ⟨-, h1⟩
      · cases h1
      · exact .inr (.inr (.inr ⟨i, f, h1, hbb⟩))
  · rcases updD_cases hi with ⟨-, h1⟩ | ⟨-, h1⟩
    · cases h1
    · exact ⟨f, h1, rfl, rfl⟩
theorem DlK.share (h : DlK w3 L P pv nb s W) (hL : L.B ≤ w3.heap.size) {E : Nat → Addr} {k : Int} {q : ByteArray} {n : Int} {e : Ending} (hP : ShP True E L s k q n W e W') : ∃ (v : Value) (s' : St), e = .returned v ∧ DlK w3 L P pv (nb + 300) s' W' := by
  have h1 := h.N
  have h2 := h.nm
  rcases hP with ⟨v, -, he, hb⟩ | ⟨-, he, hb, -⟩ | ⟨-, he, hf, k', n', was, e0, xn, xw, -, -, g1, -, -, -, -, g6, g7⟩
  · exact ⟨_, s, he, { h.later hL hb with N := by omega, nm := by omega }⟩
  · exact ⟨_, s, he, { h.later hL hb with N := by omega, nm := by omega }⟩
  · refine ⟨_, _, he, h.act hL hf g6 (fun b hb => .inl (g7 b hb)) rfl (fun i f hi => ?_) (by show s.N + 3 ≤ nb + 300; omega) (by show s.nm ≤ nb + 300; omega)⟩
    rcases updD_cases hi with ⟨rfl, h3⟩ | ⟨-, h3⟩
    · cases h3; exact ⟨e0, g1, rfl, rfl⟩
    · exact ⟨f, h3, rfl, rfl⟩
end
/-- A block that is none of the dirs'. -/
structure ApG (L : Loc) (s : St) (g : Nat) : Prop where
  tb : notTb L s.T g
  d : g ≠ L.d
  mb : g ≠ L.mb
  fm : ∀ k e, s.D k = some e → g ≠ e.fm
  tr : ∀ k e, s.D k = some e → e.tr.In (fun b => b ≠ g)
theorem DiM.apart {pc : Prop} {w w' : World} {L : Loc} {s : St} (h : DiM pc w L s) {g : Nat} (hg : ApG L s g) (hf : Fr (fun b => b = g) w w') : DiM pc w' L s :=
  { h with
    tb := tb_fr h.tb hf (fun b hb => by rw [hb]; exact hg.tb)
    bk := h.bk.fr hf (fun e => hg.d e.symm)
    mp := h.mp.fr hf (fun e => hg.mb e.symm)
    fms := fun k e he => (h.fms k e he).fr hf (fun e' => hg.fm k e he e'.symm)
    tr := fun k e he => ok_fr hf _ (h.tr k e he) (hg.tr k e he) }
theorem DiAt.apart {pc : Prop} {w w' : World} {L : Loc} {s : St} (h : DiAt pc w L s) {g : Nat} (hg : ApG L s g) (hf : Fr (fun b => b = g) w w') : DiAt pc w' L s := { h with toDiM := h.toDiM.apart hg hf }
end Go.Proofs.YtoemahhpheobkaaGreatDoor

namespace Go.Proofs.YtoemahhpheobkaaGreatDoor
open Go.RowKit Go.Shelf

theorem own_apartd {F G : Nat → Prop} {w : World} {v u : Value} {n m : Nat} {xs ys : List Value} {S T : TypeId} {z y : Nat} (h : Ow F w S z v n xs) (k : Ow G w T y u m ys) (hn : S ≠ T) {b : Nat} (hv : v.ownBlock = some b) : u.ownBlock ≠ some b := by
  rcases h.2 with ⟨rfl, -⟩ | ⟨g, o, cap, cur, rfl, -, hg, -⟩
  · simp [Value.ownBlock] at hv
  rcases k.2 with ⟨rfl, -⟩ | ⟨g', o', cap', cur', rfl, -, hg', -⟩
  · simp [Value.ownBlock]
  · simp only [Value.ownBlock, Option.some.injEq] at hv
    subst hv
    simp only [Value.ownBlock, ne_eq, Option.some.injEq]
    rintro rfl
    rw [hg] at hg'
    injection hg' with hg'
    injection hg' with _ hg'
    exact hn hg'
theorem ap_rows {pc : Prop} {W : World} {L : Loc} {s : St} (h : DiM pc W L s) {F : Nat → Prop} {v : Value} {n : Nat} {xs : List Value} (hr : Ow F W 32 4 v n xs) {g : Nat} (hg : v.ownBlock = some g)
    (htr : ∀ k e, s.D k = some e → e.tr.In (fun b => v.ownBlock ≠ some b)) : ApG L s g := by
  have nb : ∀ {b : Nat} {cs : List Value} {T : TypeId}, Blk W b cs T → 32 ≠ T → g ≠ b := fun hb hn e => own_ne hr hb hn (e ▸ hg)
  have nm : ∀ {m : Nat}, (∀ c T z, W.heap[m]? ≠ some (.cells c T z)) → g ≠ m := fun hm e => own_ne_any hr hm (e ▸ hg)
  refine ⟨⟨nb h.tb.tab (by decide), nb h.tb.dk.head (by decide), nb h.tb.dk.row (by decide), nb h.tb.sp.head (by decide), nb h.tb.sp.row (by decide), ?_, fun k x hx => ⟨nb (h.tb.ino k x hx).blk (by decide), own_apartd hr (h.tb.ino k x hx).row (by decide) hg⟩⟩, nb h.bk (by decide), nm h.mp.noc, fun k e he => nm (h.fms k e he).noc, fun k e he => in_mono (fun b hb e' => hb (by rw [e']; exact hg)) _ (htr k e he)⟩
  obtain ⟨n, hn, hm⟩ := h.tb.mp
  exact fun e => own_ne_map hr hm (e ▸ hg)
/-- Behind a Put that was one, ahead of the append. -/
structure DlQ (w3 : World) (L : Loc) (P : List Lt) (c : Lt) (pv : Value) (nb : Nat) (s : St) (W : World) : Prop where
  di : DiAt True W L s
  bel : Below L.B w3 W
  rows : Ow (fun g => L.B ≤ g ∧ ¬ diS L s g) W 32 4 pv P.length (ndcells P)
  nx : s.nx = P.length + 1
  src : ∀ k e, s.D k = some e → ∃ h : k < (P ++ [c]).length, e.src = (P ++ [c])[k].bare
  pok : ∀ x ∈ P ++ [c], x.Ok w3
  tr : ∀ k e, s.D k = some e → e.tr.In (fun b => pv.ownBlock ≠ some b)
  N : s.N ≤ nb
  nm : s.nm ≤ nb
section
variable {w3 : World} {L : Loc} {P : List Lt} {pv : Value} {nb : Nat} {s s' : St} {W W' : World} {c : Lt}
theorem DlQ.later (h : DlQ w3 L P c pv nb s W) (hL : L.B ≤ w3.heap.size) (hb : Below W.heap.size W W') : DlQ w3 L P c pv nb s W' :=
  { h with di := h.di.low hb, bel := h.bel.trans (hb.mono (Nat.le_trans hL h.bel.size)), rows := h.rows.ob hb }
theorem DlK.put (h : DlK w3 L P pv nb s W) (hL : L.B ≤ w3.heap.size) (hc : c.Ok w3) {t : Lt} (ht : t.bare = c.bare) {e : Ending} (hP : PuY L s t W e W') :
    ∃ (v : Int) (cv : Value), e = .returned (.tuple #[.int .i64 v, cv]) ∧ ((∃ a s', cv = .iface 249 a ∧ DlK w3 L P pv (nb + 300) s' W') ∨ ∃ s', cv = .nilIface ∧ v = (P.length : Int) ∧ DlQ w3 L P c pv (nb + 300) s' W') := by
  obtain ⟨hf, v, cv, s', rfl, hd, hN, hnm, hS, hr⟩ := hP
  have h1 := h.N
  have h2 := h.nm
  refine ⟨v, cv, rfl, ?_⟩
  rcases hr with ⟨⟨a, ha⟩, hx, hD⟩ | ⟨ha, hv, hx, -, e', he1, he2, hD⟩
  · refine .inl ⟨a, s', ha, h.act hL hf hd hS hx (fun k f hk => ⟨f, by rw [← hD]; exact hk, rfl, rfl⟩) (by omega) (by omega)⟩
  · have hn := h.nx
    have hq : ∀ k f, s'.D k = some f → (k = P.length ∧ f = e') ∨ (k ≠ P.length ∧ s.D k = some f) := fun k f hk => by
      rw [hD, hn] at hk
      rcases updD_cases hk with ⟨h1, h2⟩ | h1
      · exact .inl ⟨h1, (Option.some.inj h2).symm⟩
      · exact .inr h1
    refine .inr ⟨s', ha, by rw [hv, hn], hd, h.bel.trans (hf.below (Nat.le_trans hL h.bel.size) h.di.toDiM.baseS), ?_, by rw [hx, hn], fun k f hk => ?_, fun x hx => ?_, fun k f hk => ?_, by omega, by omega⟩
    · have h1 := h.rows.fr hf (fun g hg hd => (h.rows.blk g hg).1.2 hd)
      refine ⟨h1.1, ?_⟩
      rcases h1.2 with h2 | ⟨g, o, cap, cur, e1, e2, e3, rest⟩
      · exact .inl h2
      · refine .inr ⟨g, o, cap, cur, e1, ⟨e2.1, fun hb => ?_⟩, e3, rest⟩
        rcases hS g hb with h3 | h3
        · exact e2.2 h3
        · have h4 := (h.rows.blk g (by rw [e1]; rfl)).2
          omega
    · rcases hq k f hk with ⟨rfl, rfl⟩ | ⟨-, h3⟩
      · exact ⟨by simp, by rw [he1, ht]; simp⟩
      · obtain ⟨h4, h5⟩ := h.src k f h3
        exact ⟨by simp; omega, by rw [h5, List.getElem_append_left h4]⟩
    · rcases List.mem_append.1 hx with h3 | h3
      · exact h.pok x h3
      · simp only [List.mem_cons, List.not_mem_nil, or_false] at h3
        subst h3; exact hc
    · rcases hq k f hk with ⟨rfl, rfl⟩ | ⟨-, h3⟩
      · refine in_mono (fun b hb e => ?_) _ he2
        have := (h.rows.blk b e).2
        omega
      · exact h.tr k f h3
theorem DlQ.app (h : DlQ w3 L P c pv nb s W) (hL : L.B ≤ w3.heap.size) {v' : Value} (hFr : Fr (fun b => pv.ownBlock = some b) W W') {F : Nat → Prop} (hF : ∀ g, F g → W.heap.size ≤ g ∨ pv.ownBlock = some g)
    (hr : Ow F W' 32 4 v' (P.length + 1) (ndcells P ++ ncells c)) : DlK w3 L (P ++ [c]) v' nb s W' := by
  have hB : Below L.B W W' := hFr.below (Nat.le_trans hL h.bel.size) (fun b hb => (h.rows.blk b hb).1.1)
  have hlt := h.di.toDiM.ltS
  have hz : L.B ≤ W.heap.size := Nat.le_trans hL h.bel.size
  refine ⟨?_, h.bel.trans hB, ?_, by rw [h.nx]; simp, h.src, h.pok, fun k e he => ?_, h.N, h.nm⟩
  · cases hp : pv.ownBlock with
    | none =>
      refine h.di.low (Fr.below (S := fun _ => False) ?_ (Nat.le_refl _) (fun b hb => hb.elim))
      rw [hp] at hFr
      exact hFr.mono (fun b _ hb => by cases hb)
    | some g =>
      refine h.di.apart (ap_rows h.di.toDiM h.rows hp h.tr) ?_
      rw [hp] at hFr
      exact hFr.mono (fun b _ hb => (Option.some.inj hb).symm)
  · have e1 : ndcells (P ++ [c]) = ndcells P ++ ncells c := by unfold ndcells; rw [List.flatMap_append]; simp
    rw [e1, List.length_append]
    refine hr.mono (fun g hg => ?_)
    rcases hF g hg with h1 | h1
    · exact ⟨by omega, fun hb => by have := hlt g hb; omega⟩
    · exact (h.rows.blk g h1).1
  · refine in_mono (fun b hb e' => ?_) _ (in_and _ (h.tr k e he) (ok_in _ (h.di.tr k e he)))
    rcases hF b (hr.blk b e').1 with h1 | h1
    · omega
    · exact hb.1 h1
/-- Between two acts, ahead of the first. -/
theorem DlK.start {us : List Bool} {ls : List ByteArray} (h : DiAt True w3 L ⟨0, 0, fun _ => none, us, ls, fun _ => none, 0⟩) : DlK w3 L [] (.slice none 0 0) 0 ⟨0, 0, fun _ => none, us, ls, fun _ => none, 0⟩ w3 :=
  ⟨h, Below.refl _ _, Ow.nil _ _ _ _, rfl, (fun k e he => by cases he), (fun c hc => by cases hc), (fun k e he => by cases he), Nat.le_refl _, Nat.le_refl _⟩
theorem DlK.more (h : DlK w3 L P pv nb s W) {nb' : Nat} (hn : nb ≤ nb') : DlK w3 L P pv nb' s W := { h with N := Nat.le_trans h.N hn, nm := Nat.le_trans h.nm hn }
theorem DlK.fl200 (h : DlK w3 L P pv nb s W) {k : Nat} {e : Dt} (he : s.D k = some e) : e.fl.length ≤ 200 := by
  have h0 := (h.di.well k e he).right
  show (fileL (listed e.src)).length ≤ 200
  rw [fileL_R h0, List.length_map]
  have h1 : (filesR (e.src.map fun _ => Value.nilIface)).length ≤ 200 := filesR_le (by rw [treeE_map]; exact h0)
  rw [filesR_mapd, List.length_map] at h1
  exact h1
/-- Drop, of any number. -/
theorem DlK.drop_any {E : Nat → Addr} {B : Nat} (h : DlK w3 L P pv nb s W) (hL : L.B ≤ w3.heap.size) (hE : Env diGs B W E) {k : Int} (hk : K64 k) (hN : nb ≤ 500000) :
    Calls Tryz.prog 10 #[.pointer (some ⟨L.d, 0, none⟩), .int .i64 k] W fun e W' => (∃ v, e = .returned v) ∧ ∃ s', DlK w3 L P pv (nb + 300) s' W' := by
  cases hd : dmF s.D k with
  | none =>
    refine (ddrop_none E B L s k W h.di.toDiM hE hk hd).mono ?_
    rintro e W' ⟨rfl, hb⟩
    exact ⟨⟨_, rfl⟩, s, (h.later hL hb).more (by omega)⟩
  | some u =>
    have h0 : 0 ≤ k := by
      by_cases h0 : 0 ≤ k
      · exact h0
      · unfold dmF at hd; rw [if_neg h0] at hd; cases hd
    obtain ⟨j, rfl⟩ : ∃ j : Nat, k = (j : Int) := ⟨k.toNat, by omega⟩
    rw [dmF_nat] at hd
    obtain ⟨e0, he0, -⟩ := Option.map_eq_some_iff.1 hd
    refine (ddrop_some L s j e0 W h.di hk (by have := h.N; omega) he0 (h.fl200 he0)).mono ?_
    intro e W' hP
    obtain ⟨rfl, s', hs⟩ := h.drop hL hP
    exact ⟨⟨_, rfl⟩, s', hs⟩
end
end Go.Proofs.YtoemahhpheobkaaGreatDoor
