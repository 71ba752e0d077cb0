/- The document's With: a text more, of a rising list. Condition: the list is there, rising, not long. -/
import Derived.Test.YtlcabkhalockpaaGreatDoorQi
namespace Go.Proofs.YtlcabkhalockpaaGreatDoor
open Go.RowKit Go.Shelf Go.Maps

/-- What With gives. -/
def WiP (l : List ByteArray) (s : ByteArray) (w : World) (e : Ending) (w' : World) : Prop :=
  ∃ (c : List ByteArray) (a : Option Addr) (k : Nat), e = .returned (.slice a c.length k) ∧ TxI c (.slice a c.length k) w' ∧ Below w.heap.size w w' ∧ Up c ∧ (∀ t, t ∈ c ↔ t ∈ l ∨ t = s) ∧ c.length ≤ l.length + 1
theorem WiP.same {l : List ByteArray} {s : ByteArray} (hl : Up l) (hs : s ∈ l) {c : List ByteArray} (h1 : Up c) (h2 : ∀ t, t ∈ c ↔ t ∈ l ∨ t = s) : c = l :=
  up_eq h1 hl (fun t => by rw [h2]; exact ⟨fun h => by rcases h with h | rfl; exact h; exact hs, .inl⟩)
theorem up_ins {l : List ByteArray} {s : ByteArray} (h : Up l) {k : Nat} (hk : k ≤ l.length) (hlo : ∀ t ∈ l.take k, t.data.toList < s.data.toList) (hhi : ∀ (h : k < l.length), s.data.toList < l[k].data.toList) : Up (l.take k ++ [s] ++ l.drop k) := by
  have hup : Up (l.take k ++ l.drop k) := by rw [List.take_append_drop]; exact h
  obtain ⟨h1, h2, h3⟩ := List.pairwise_append.1 hup
  have hd : ∀ t ∈ l.drop k, s.data.toList < t.data.toList := fun t ht => by
    by_cases hlt : k < l.length
    · rw [List.drop_eq_getElem_cons hlt] at ht h2
      rcases List.mem_cons.1 ht with rfl | ht
      · exact hhi hlt
      · exact lt_tr (hhi hlt) ((List.pairwise_cons.1 h2).1 t ht)
    · rw [List.drop_eq_nil_of_le (by omega)] at ht
      cases ht
  refine List.pairwise_append.2 ⟨List.pairwise_append.2 ⟨h1, List.pairwise_singleton .., fun x hx y hy => ?_⟩, h2, fun x hx y hy => ?_⟩
  · simp only [List.mem_singleton] at hy; subst hy; exact hlo x hx
  · rcases List.mem_append.1 hx with hx | hx
    · exact h3 x hx y hy
    · simp only [List.mem_singleton] at hx; subst hx; exact hd y hy
theorem mem_ins {l : List ByteArray} {s : ByteArray} {k : Nat} : ∀ t, t ∈ l.take k ++ [s] ++ l.drop k ↔ t ∈ l ∨ t = s := fun t => by
  rw [List.mem_append, List.mem_append, List.mem_singleton]
  have : t ∈ l ↔ t ∈ l.take k ∨ t ∈ l.drop k := by rw [← List.mem_append, List.take_append_drop]
  rw [this]
  constructor
  · rintro ((h | h) | h)
    · exact .inl (.inl h)
    · exact .inr h
    · exact .inl (.inr h)
  · rintro ((h | h) | h)
    · exact .inl (.inl h)
    · exact .inr h
    · exact .inl (.inr h)
/-- The rest of a slice, wherever its address is said to lie when it is empty. -/
theorem sl_drop {w : World} {b off n cap : Nat} {l : List ByteArray} (h : TxI l (.slice (some ⟨b, off, none⟩) n cap) w) {k : Nat} (hk : k < l.length) : TxI (l.drop k) (.slice (some ⟨b, off + k, none⟩) (n - k) (cap - k)) w := by
  obtain ⟨⟨a', cap', he, h1, h2, h2', h3⟩, hz⟩ := h
  simp only [Value.slice.injEq] at he
  obtain ⟨rfl, rfl, rfl⟩ := he
  have hl : (l.drop k).length = l.length - k := by rw [List.length_drop]
  refine ⟨⟨_, _, by rw [hl], by rw [tcells_len, hl]; omega, by omega, by omega, ?_⟩, fun s hs => hz s (List.mem_of_mem_drop hs)⟩
  rcases h3 with h3 | ⟨b', off', e, h4, h5⟩
  · omega
  · simp only [Option.some.injEq, Addr.mk.injEq] at e
    obtain ⟨rfl, rfl, -⟩ := e
    refine .inr ⟨b, off + k, rfl, h4, fun j hj => ?_⟩
    rw [tcells_len, hl] at hj
    rw [Nat.add_assoc, h5 (k + j) (by rw [tcells_len]; omega)]
    simp [tcells]
set_option maxRecDepth 100000 in
set_option maxHeartbeats 8000000 in
theorem with_any (l : List ByteArray) (v : Value) (s : ByteArray) (w : World) (h : TxI l v w) (hu : Up l) (hz : Sz s) (h5 : l.length ≤ 100000) :
    Calls Tryz.prog 21 #[v, .string s] w (WiP l s w) := by
  obtain ⟨a, cap, rfl⟩ := h.shape
  obtain ⟨i0, hi0, hz0, hz1, hz2⟩ := info_parts infoTx3
  go_enter Tryz.func21, Tryz.ntmps21
  go_wp2_with fail
  go_loopw [5] (fun i wr => ∃ k : Nat, k ≤ l.length ∧ i = .int .i64 k ∧ (∀ t ∈ l.take k, t.data.toList < s.data.toList) ∧ Below w.heap.size w wr) (fun i _ => l.length - (intOf i).toNat)
  case atStart => exact ⟨0, Nat.zero_le _, rfl, by simp, Below.refl _ _⟩
  case round =>
    obtain ⟨k, hk, rfl, hno, hbe⟩ := hrel
    by_cases hlt : k < l.length
    · obtain ⟨b0, o0, e0, hb0, -⟩ := h.at hlt
      obtain ⟨b1, o1, rfl, hb1, c1⟩ := (h.ob hbe).at hlt
      simp only [Option.some.injEq, Addr.mk.injEq] at e0
      obtain ⟨rfl, rfl, -⟩ := e0
      have p1 : (0 : Int) ≤ (k : Int) := by omega
      have p2 : (k : Int) < (l.length : Int) := by omega
      have hst : l[k].data.toList < s.data.toList → ∀ t ∈ l.take (k + 1), t.data.toList < s.data.toList := fun hx t ht => by
        rw [List.take_succ_eq_append_getElem hlt, List.mem_append, List.mem_singleton] at ht
        rcases ht with ht | rfl
        · exact hno t ht
        · exact hx
      have hins : s.data.toList < l[k].data.toList → Up (l.take k ++ [s] ++ l.drop k) := fun hx => up_ins hu hk hno (fun _ => hx)
      have hmem : l[k] ∈ l := List.getElem_mem hlt
      generalize l[k] = y at *
      have t1 := txt_beq y s
      have t2 : Op.bytesLess y.toList s.toList = decide (y.data.toList < s.data.toList) := by rw [bless_eq, Lib.toList_data, Lib.toList_data]
      have HST := hidd hst
      have HINS := hidd hins
      by_cases hx : y.data.toList < s.data.toList
      · rw [decide_eq_true hx] at t2
        have HX := hidd hx
        clear hno hst hins hmem h hx t1
        go_wp2_with fail
        go_roundw
        case rel => exact ⟨k + 1, hlt, by go_num, HST.out HX.out, hbe⟩
        case measure => simp [intOf]; omega
      · rw [decide_eq_false hx] at t2
        by_cases hy : y = s
        · rw [decide_eq_true hy] at t1
          have HR : Hid (WiP l s w (.returned (.slice (some ⟨b1, o1, none⟩) l.length cap)) wr) := hidd ⟨l, _, _, rfl, h.ob hbe, hbe, hu, fun t => ⟨.inl, fun ht => by rcases ht with ht | rfl; exact ht; exact hy ▸ hmem⟩, by omega⟩
          clear hno hst hins hmem h hx hy hu HST HINS
          go_wp2_with fail
          go_ret
          exact HR.out
        · rw [decide_eq_false hy] at t1
          have hlt3 : s.data.toList < y.data.toList := by
            rcases lt_tri y.data.toList s.data.toList with q | q | q
            · exact absurd q hx
            · exact absurd (toList_inj q) hy
            · exact q
          have HUP := hidd (HINS.out hlt3)
          have hs1 := sl_take (h.ob hbe) (k := k) (by omega)
          have hs2 := sl_drop (h.ob hbe) (k := k) hlt
          have hcl : l.length ≤ cap := by
            obtain ⟨_, _, he, _, q, _⟩ := h.1
            simp only [Value.slice.injEq] at he
            obtain ⟨-, -, rfl⟩ := he
            exact q
          have p3 : (k : Int) ≤ (cap : Int) := by omega
          have HZ := hidd h.2
          clear hno hst hins hmem h hx hy hlt3 hu HST HINS
          have hA1 := Src.sl (P := Tryz.prog) (tx := 23) Tryz.underlying23 hs1.1 (one_tcells _)
          have hlk : (l.take k).length = k := by rw [List.length_take]; omega
          have hld : (l.drop k).length = l.length - k := List.length_drop
          rw [hlk] at hA1
          have HLK := hidd hlk
          have HLD := hidd hld
          have HSZ := hidd hbe.size
          have HS2 := hidd hs2
          have HB := hidd hbe
          have HAP : Hid (∀ j, (Value.slice (some ⟨b1, o1 + k, none⟩) (l.length - k) (cap - k)).ownBlock = some j → ¬ w.heap.size ≤ j) := hidd (fun j hj => by simp [Value.ownBlock] at hj; omega)
          clear hs1 hs2 hlk hld
          go_wp2_with (at_builtin; refine wpList_append_ow _ rfl _ _ 23 23 rfl (fun g => w.heap.size ≤ g) ?cF 9 i0 _ 1 16 Tryz.underlying23 hi0 hz0 hz1 hz2 rfl (by decide) _ _ _ rfl (Ow.nil _ _ _ _) _ _ _ rfl hA1 ?c3 ?c4 ?_)
          case cF => intro g hg; have := HSZ.out; omega
          case c3 => unfold maxLen; omega
          case c4 => omega
          intro v5 w5 ho5 hg5
          try simp only [Nat.zero_add, List.nil_append] at ho5
          obtain ⟨a5, c5, rfl⟩ := ho5.shape
          have hbn := (Below.refl wr.heap.size wr).grown hg5 (Nat.le_refl _) (fun j e => by cases e)
          have hb5 := below_step HB.out hbn
          have hz5 := hb5.size
          have hs5 := HS2.out.ob hbn
          have hsn := Src.new (P := Tryz.prog) (size := 1) (tx := 23) Tryz.underlying23 w5 w5.heap.size rfl [.string s] 9 rfl (by intro u hu; simp only [List.mem_cons, List.not_mem_nil, or_false] at hu; rcases hu with rfl; rfl) 1
          have HO5 := hidd (ho5.alloc (.cells #[.string s] 9))
          have HS5 := hidd (hs5.ob ((Below.refl _ _).alloc (Nat.le_refl _) (.cells #[.string s] 9)))
          have HB5 := hidd (hb5.alloc hz5 (.cells #[.string s] 9))
          have HW5 := hidd ho5.blk
          clear hg5 ho5 hbn hb5 hs5 hA1 HS2 HB
          go_wp2_with (at_builtin; refine wpList_append_ow _ rfl _ _ 23 23 rfl (fun g => w.heap.size ≤ g) ?cF 9 i0 _ 1 16 Tryz.underlying23 hi0 hz0 hz1 hz2 rfl (by decide) _ _ _ rfl HO5.out _ _ _ rfl hsn ?c3 ?c4 ?_)
          case cF => intro g hg; simp at hg; omega
          case c3 => unfold maxLen; omega
          case c4 => omega
          intro v6 w6 ho6 hg6
          obtain ⟨a6, c6, rfl⟩ := ho6.shape
          have hF6 : Fr (fun b => (Value.slice a5 (k) c5).ownBlock = some b) (w5.alloc (.cells #[.string s] 9)) w6 := (Fr.refl _ _).grown hg6 (fun j e => .inl e)
          have hb6 := HB5.out.grown hg6 HB5.out.size (fun j e => (HO5.out.blk j e).1)
          have hz6 := hb6.size
          have hs6 : TxI (l.drop k) (.slice (some ⟨b1, o1 + k, none⟩) (l.length - k) (cap - k)) w6 := ⟨HS5.out.1.fr hF6 (fun j hj e => HAP.out j hj (HW5.out j e).1), HS5.out.2⟩
          have hr6 := Src.sl (P := Tryz.prog) (tx := 23) Tryz.underlying23 hs6.1 (one_tcells _)
          rw [HLD.out] at hr6
          have HO6 := hidd ho6
          have HB6 := hidd hb6
          clear hg6 ho6 hF6 hb6 hs6 HS5 HO5 HB5 HW5 hsn
          go_wp2_with (at_builtin; refine wpList_append_ow _ rfl _ _ 23 23 rfl (fun g => w.heap.size ≤ g) ?cF 9 i0 _ 1 16 Tryz.underlying23 hi0 hz0 hz1 hz2 rfl (by decide) _ _ _ rfl HO6.out _ _ _ rfl hr6 ?c3 ?c4 ?_)
          case cF => intro g hg; omega
          case c3 => unfold maxLen; omega
          case c4 => omega
          intro v7 w7 ho7 hg7
          have hb7 := HB6.out.grown hg7 HB6.out.size (fun j e => (HO6.out.blk j e).1)
          obtain ⟨a7, c7, rfl⟩ := ho7.shape
          have HR : Hid (WiP l s w (.returned (.slice a7 (k + 1 + (l.length - k)) c7)) w7) := hidd ⟨l.take k ++ [s] ++ l.drop k, a7, c7, by simp [HLK.out, HLD.out] <;> omega, ⟨by simp only [List.length_append, HLK.out, HLD.out]; simpa [tcells, List.map_append] using ho7.sl, fun t ht => by rcases (mem_ins t).1 ht with q | rfl; exact HZ.out t q; exact hz⟩, hb7, HUP.out, mem_ins, by simp only [List.length_append, HLK.out, HLD.out, List.length_cons, List.length_nil]; omega⟩
          clear ho7 hg7 hb7 hr6 HO6 HB6
          go_wp2_with fail
          go_ret
          exact HR.out
    · have hkl : k = l.length := by omega
      subst hkl
      rw [List.take_of_length_le (Nat.le_refl _)] at hno
      have HNO := hidd hno
      clear hno
      have HUP : Hid (Up (l ++ [s])) := hidd (List.pairwise_append.2 ⟨hu, List.pairwise_singleton .., fun x hx y hy => by simp only [List.mem_singleton] at hy; subst hy; exact HNO.out x hx⟩)
      have HRE : Hid (∀ (W : World) (A : Option Addr) (C : Nat), C ≤ maxLen → Src Tryz.prog 1 23 (.slice A 0 C) 0 [] W) := hidd (fun W A C hC => Src.sl (P := Tryz.prog) (tx := 23) Tryz.underlying23 (⟨A, C, rfl, rfl, Nat.zero_le _, hC, .inl rfl⟩ : Sl W (.slice A 0 C) [] 0 1) (by intro u hu; cases hu))
      have HZ := hidd h.2
      have HSZ := hidd hbe.size
      have HB := hidd hbe
      have hA1 := Src.sl (P := Tryz.prog) (tx := 23) Tryz.underlying23 (h.ob hbe).1 (one_tcells _)
      have hcap : cap ≤ 9223372036854775807 := by
        obtain ⟨_, _, he, _, _, q, _⟩ := h.1
        simp only [Value.slice.injEq] at he
        obtain ⟨-, -, rfl⟩ := he
        exact q
      have HCAP := hidd hcap
      have p3 : (l.length : Int) ≤ (cap : Int) := by
        obtain ⟨_, _, he, _, q, _, _⟩ := h.1
        simp only [Value.slice.injEq] at he
        obtain ⟨-, -, rfl⟩ := he
        omega
      cases a with
      | none =>
        have hl0 : l = [] := by
          obtain ⟨_, _, he, _, _, _, q⟩ := h.1
          simp only [Value.slice.injEq] at he
          obtain ⟨rfl, -, -⟩ := he
          rcases q with q | ⟨_, _, q, _⟩
          · exact List.eq_nil_of_length_eq_zero q
          · cases q
        subst hl0
        simp only [List.length_nil] at p3
        go_wp2_with (at_builtin; refine wpList_append_ow _ rfl _ _ 23 23 rfl (fun g => w.heap.size ≤ g) ?cF 9 i0 _ 1 16 Tryz.underlying23 hi0 hz0 hz1 hz2 rfl (by decide) _ _ _ rfl (Ow.nil _ _ _ _) _ _ _ rfl (HRE.out wr _ _ (by have := HCAP.out; unfold maxLen; omega)) ?c3 ?c4 ?_)
        case cF => intro g hg; have := HSZ.out; omega
        case c3 => unfold maxLen; omega
        case c4 => omega
        intro v5 w5 ho5 hg5
        try simp only [Nat.zero_add, List.nil_append] at ho5
        obtain ⟨a5, c5, rfl⟩ := ho5.shape
        have hbn := (Below.refl wr.heap.size wr).grown hg5 (Nat.le_refl _) (fun j e => by cases e)
        have hb5 := below_step HB.out hbn
        have hz5 := hb5.size
        skip
        have hsn := Src.new (P := Tryz.prog) (size := 1) (tx := 23) Tryz.underlying23 w5 w5.heap.size rfl [.string s] 9 rfl (by intro u hu; simp only [List.mem_cons, List.not_mem_nil, or_false] at hu; rcases hu with rfl; rfl) 1
        have HO5 := hidd (ho5.alloc (.cells #[.string s] 9))
        skip
        have HB5 := hidd (hb5.alloc hz5 (.cells #[.string s] 9))
        have HW5 := hidd ho5.blk
        clear hg5 ho5 hbn hb5 HB
        go_wp2_with (at_builtin; refine wpList_append_ow _ rfl _ _ 23 23 rfl (fun g => w.heap.size ≤ g) ?cF 9 i0 _ 1 16 Tryz.underlying23 hi0 hz0 hz1 hz2 rfl (by decide) _ _ _ rfl HO5.out _ _ _ rfl hsn ?c3 ?c4 ?_)
        case cF => intro g hg; simp at hg; omega
        case c3 => unfold maxLen; omega
        case c4 => omega
        intro v6 w6 ho6 hg6
        obtain ⟨a6, c6, rfl⟩ := ho6.shape
        have hb6 := HB5.out.grown hg6 HB5.out.size (fun j e => (HO5.out.blk j e).1)
        have hz6 := hb6.size
        have HO6 := hidd ho6
        have HB6 := hidd hb6
        clear hg6 ho6 hb6 HO5 HB5 HW5 hsn
        go_wp2_with (at_builtin; refine wpList_append_ow _ rfl _ _ 23 23 rfl (fun g => w.heap.size ≤ g) ?cF 9 i0 _ 1 16 Tryz.underlying23 hi0 hz0 hz1 hz2 rfl (by decide) _ _ _ rfl HO6.out _ _ _ rfl (HRE.out w6 _ _ (by have := HCAP.out; unfold maxLen; omega)) ?c3 ?c4 ?_)
        case cF => intro g hg; omega
        case c3 => unfold maxLen; omega
        case c4 => omega
        intro v7 w7 ho7 hg7
        have hb7 := HB6.out.grown hg7 HB6.out.size (fun j e => (HO6.out.blk j e).1)
        obtain ⟨a7, c7, rfl⟩ := ho7.shape
        have HR : Hid (WiP [] s w (.returned (.slice a7 (0 + 1 + 0) c7)) w7) := hidd ⟨[] ++ [s], a7, c7, by simp [List.length_cons, List.length_nil] <;> omega, ⟨by simp only [List.length_append, List.length_cons, List.length_nil]; simpa [tcells, List.map_append] using ho7.sl, fun t ht => by rcases List.mem_append.1 ht with q | q; exact HZ.out t q; simp only [List.mem_singleton] at q; subst q; exact hz⟩, hb7, HUP.out, fun t => by rw [List.mem_append, List.mem_singleton], by simp only [List.length_append, List.length_cons, List.length_nil]; omega⟩
        clear ho7 hg7 hb7 HO6 HB6
        go_wp2_with fail
        go_ret
        exact HR.out
      | some ad =>
        go_wp2_with (at_builtin; refine wpList_append_ow _ rfl _ _ 23 23 rfl (fun g => w.heap.size ≤ g) ?cF 9 i0 _ 1 16 Tryz.underlying23 hi0 hz0 hz1 hz2 rfl (by decide) _ _ _ rfl (Ow.nil _ _ _ _) _ _ _ rfl hA1 ?c3 ?c4 ?_)
        case cF => intro g hg; have := HSZ.out; omega
        case c3 => unfold maxLen; omega
        case c4 => omega
        intro v5 w5 ho5 hg5
        try simp only [Nat.zero_add, List.nil_append] at ho5
        obtain ⟨a5, c5, rfl⟩ := ho5.shape
        have hbn := (Below.refl wr.heap.size wr).grown hg5 (Nat.le_refl _) (fun j e => by cases e)
        have hb5 := below_step HB.out hbn
        have hz5 := hb5.size
        skip
        have hsn := Src.new (P := Tryz.prog) (size := 1) (tx := 23) Tryz.underlying23 w5 w5.heap.size rfl [.string s] 9 rfl (by intro u hu; simp only [List.mem_cons, List.not_mem_nil, or_false] at hu; rcases hu with rfl; rfl) 1
        have HO5 := hidd (ho5.alloc (.cells #[.string s] 9))
        skip
        have HB5 := hidd (hb5.alloc hz5 (.cells #[.string s] 9))
        have HW5 := hidd ho5.blk
        clear hg5 ho5 hbn hb5 hA1 HB
        go_wp2_with (at_builtin; refine wpList_append_ow _ rfl _ _ 23 23 rfl (fun g => w.heap.size ≤ g) ?cF 9 i0 _ 1 16 Tryz.underlying23 hi0 hz0 hz1 hz2 rfl (by decide) _ _ _ rfl HO5.out _ _ _ rfl hsn ?c3 ?c4 ?_)
        case cF => intro g hg; simp at hg; omega
        case c3 => unfold maxLen; omega
        case c4 => omega
        intro v6 w6 ho6 hg6
        obtain ⟨a6, c6, rfl⟩ := ho6.shape
        have hb6 := HB5.out.grown hg6 HB5.out.size (fun j e => (HO5.out.blk j e).1)
        have hz6 := hb6.size
        have HO6 := hidd ho6
        have HB6 := hidd hb6
        clear hg6 ho6 hb6 HO5 HB5 HW5 hsn
        by_cases hcl : cap = l.length
        all_goals
          go_wp2_with (at_builtin; refine wpList_append_ow _ rfl _ _ 23 23 rfl (fun g => w.heap.size ≤ g) ?cF 9 i0 _ 1 16 Tryz.underlying23 hi0 hz0 hz1 hz2 rfl (by decide) _ _ _ rfl HO6.out _ _ _ rfl (HRE.out w6 _ _ (by have := HCAP.out; unfold maxLen; omega)) ?c3 ?c4 ?_)
          case cF => intro g hg; omega
          case c3 => unfold maxLen; omega
          case c4 => omega
          intro v7 w7 ho7 hg7
          have hb7 := HB6.out.grown hg7 HB6.out.size (fun j e => (HO6.out.blk j e).1)
          obtain ⟨a7, c7, rfl⟩ := ho7.shape
          have HR : Hid (WiP l s w (.returned (.slice a7 (l.length + 1 + 0) c7)) w7) := hidd ⟨l ++ [s], a7, c7, by simp [List.length_cons, List.length_nil] <;> omega, ⟨by simp only [List.length_append, List.length_cons, List.length_nil]; simpa [tcells, List.map_append] using ho7.sl, fun t ht => by rcases List.mem_append.1 ht with q | q; exact HZ.out t q; simp only [List.mem_singleton] at q; subst q; exact hz⟩, hb7, HUP.out, fun t => by rw [List.mem_append, List.mem_singleton], by simp only [List.length_append, List.length_cons, List.length_nil]; omega⟩
          clear ho7 hg7 hb7 HO6 HB6
          go_wp2_with fail
          go_ret
          exact HR.out
end Go.Proofs.YtlcabkhalockpaaGreatDoor
