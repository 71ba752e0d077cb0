/- What path.Follow calls: copies of texts, path.Join; tails of slices of texts. Condition: as stated. -/
import Derived.Test.YthnlaigabefidaaDoorPaF
import Derived.Lib.Join
namespace Go.Proofs.YthnlaigabefidaaDoor
open Go.RowKit Go.Shelf

theorem infoTx2 : (Tryd.prog.info? 9).map (fun i => (i.zero, i.size, i.bytes)) = some (some (.string ⟨#[]⟩), 1, 16) := by kernel_rfl

/-- The tail of a slice of texts, wherever its address is said to lie when it is empty. -/
theorem Sl.tail {w : World} {b off n cap : Nat} {x : ByteArray} {r : List ByteArray} (h : Sl w (.slice (some ⟨b, off, none⟩) n cap) (tcells (x :: r)) (x :: r).length 1) :
    n = r.length + 1 ∧ w.cell? ⟨b, off, none⟩ = some (.string x) ∧ Sl w (.slice (some ⟨b, off + 1, none⟩) r.length (cap - 1)) (tcells r) r.length 1 ∧ (r = [] → ∀ a c, c ≤ maxLen → Sl w (.slice a 0 c) (tcells r) r.length 1) := by
  obtain ⟨a', cap', he, h1, h2, h2', h3⟩ := h
  simp only [Value.slice.injEq] at he
  obtain ⟨rfl, rfl, rfl⟩ := he
  rcases h3 with h3 | ⟨b', off', e, hb, hc⟩
  · simp at h3
  · simp only [Option.some.injEq, Addr.mk.injEq] at e
    obtain ⟨rfl, rfl, -⟩ := e
    simp only [List.length_cons] at h2 ⊢
    refine ⟨trivial, ?_, ?_, fun hr a c hcm => ?_⟩
    · have := hc 0 (by simp [tcells])
      simpa [tcells] using this
    · refine ⟨_, _, rfl, by rw [tcells_len, Nat.mul_one], by omega, by omega, .inr ⟨b, off + 1, rfl, hb, fun j hj => ?_⟩⟩
      have := hc (j + 1) (by simp [tcells] at hj ⊢; omega)
      rw [show off + 1 + j = off + (j + 1) by omega, this]
      rfl
    · subst hr
      exact ⟨_, _, rfl, rfl, Nat.zero_le _, hcm, .inl rfl⟩
/-- The first ones of a slice of texts. -/
theorem Sl.front {w : World} {a : Option Addr} {n cap : Nat} {l : List ByteArray} (h : Sl w (.slice a n cap) (tcells l) l.length 1) (k : Nat) (hk : k ≤ l.length) : Sl w (.slice a k cap) (tcells (l.take k)) (l.take k).length 1 := by
  obtain ⟨a', cap', he, h1, h2, h2', h3⟩ := h
  simp only [Value.slice.injEq] at he
  obtain ⟨rfl, rfl, rfl⟩ := he
  have hl : (l.take k).length = k := by rw [List.length_take]; omega
  refine ⟨_, _, by rw [hl], by rw [tcells_len, Nat.mul_one], by omega, h2', ?_⟩
  rcases h3 with h3 | ⟨b, off, rfl, hb, hc⟩
  · exact .inl (by omega)
  · refine .inr ⟨b, off, rfl, hb, fun j hj => ?_⟩
    have hj' : j < l.length := by rw [tcells_len, hl] at hj; omega
    rw [hc j (by rw [tcells_len]; exact hj')]
    simp [tcells]

set_option maxRecDepth 100000 in
theorem clone_strs (v : Value) (l : List ByteArray) (w : World) (h : Sl w v (tcells l) l.length 1) (h5 : l.length ≤ 1000) :
    Calls Tryd.prog 13 #[v] w fun e w' => ∃ a cap, e = .returned (.slice a l.length cap) ∧ Ow (fun g => w.heap.size ≤ g) w' 9 1 (.slice a l.length cap) l.length (tcells l) ∧ Below w.heap.size w w' := by
  obtain ⟨i0, hi, hz0, hz1, hz2⟩ := info_parts infoTx2
  have h1 := one_tcells l
  obtain ⟨a, cap, rfl, hl, hn, hm, h3⟩ := id h
  cases a with
  | none =>
    have hk : l = [] := by
      rcases h3 with h3 | ⟨b, off, e, -⟩
      · exact List.eq_nil_of_length_eq_zero h3
      · cases e
    subst hk
    clear h h1 h3 hl
    simp only [List.length_nil]
    go_enter Tryd.func13, Tryd.ntmps13
    go_wp2_with fail
    go_ret
    exact ⟨none, 0, rfl, Ow.nil _ _ _ _, Below.refl _ _⟩
  | some ad =>
    have hs := Src.sl (P := Tryd.prog) (tx := 34) Tryd.underlying34 (h.ob ((Below.refl w.heap.size w).alloc (Nat.le_refl _) (.cells #[] 9)) (Nat.le_refl _)) h1
    have hown : Ow (fun g => w.heap.size ≤ g) (w.alloc (.cells #[] 9)) 9 1 (.slice (some ⟨w.heap.size, 0, none⟩) 0 0) 0 [] :=
      ⟨by simp, .inr ⟨w.heap.size, 0, 0, #[], rfl, Nat.le_refl _, heap_alloc_new w _, Nat.le_refl _, by unfold maxLen; omega, by simp, by simp⟩⟩
    obtain ⟨n, hnn⟩ : ∃ n, l.length = n := ⟨_, rfl⟩
    obtain ⟨cs, hcs⟩ : ∃ cs, tcells l = cs := ⟨_, rfl⟩
    rw [hnn, hcs] at hs
    rw [hnn] at h5
    rw [hnn, hcs]
    clear h h1 h3 hl hn hnn hcs
    go_enter Tryd.func13, Tryd.ntmps13
    go_wp2_with (at_builtin; refine wpList_append_ow _ rfl _ _ 34 34 rfl (fun g => w.heap.size ≤ g) ?cF 9 i0 _ 1 16 Tryd.underlying34 hi hz0 hz1 hz2 rfl (by decide) _ _ _ rfl hown _ _ _ rfl hs ?c3 ?c4 ?_)
    case cF => intro g hg; simp at hg; omega
    case c3 => unfold maxLen; omega
    case c4 => omega
    intro v' w1 hown' hgrow
    obtain ⟨a', cap', rfl⟩ := hown'.shape
    go_wp2
    go_ret
    refine ⟨a', cap', by simp, by simpa using hown', ((Below.refl _ _).alloc (Nat.le_refl _) _).grown hgrow (by simp) (fun k hk => ?_)⟩
    simp [Value.ownBlock] at hk; omega

theorem joinP_nil : joinP [] = ⟨#[47]⟩ := rfl
theorem joinP_cons {l : List ByteArray} (h : l ≠ []) : joinP l = jt l := by
  cases l with
  | nil => exact absurd rfl h
  | cons n r =>
    have hst : Stroke (jt (n :: r)) := .inr ⟨n.data.toList ++ joined r, rfl⟩
    have hne : (jt (n :: r)).toList ≠ [] := by rw [Lib.toList_data]; intro e; cases e
    unfold joinP
    rw [path_fix hst]
    exact if_neg (by simpa using hne)
theorem joinTail_L : ∀ r : List (List UInt8), Lib.joinTail [47] r = joinL r
  | [] => rfl
  | p :: r => by
    have ih := joinTail_L r
    unfold Lib.joinTail at ih ⊢
    rw [List.map_cons, List.flatten_cons, ih]
    simp [joinL]
theorem join_jt {l : List ByteArray} (h : l ≠ []) : (⟨#[47]⟩ : ByteArray) ++ ⟨(Lib.join (l.map (·.data.toList)) [47]).toArray⟩ = jt l := by
  cases l with
  | nil => exact absurd rfl h
  | cons n r =>
    apply ba_inj
    rw [jt_data, List.map_cons, Lib.join_cons, joinTail_L]
    simp [joined, joinL]

set_option maxRecDepth 100000 in
theorem join_any (v : Value) (l : List ByteArray) (w : World) (h : Sl w v (tcells l) l.length 1) (hz : (joined l).length ≤ 100000) (hn : l.length ≤ 1000) :
    Calls Tryd.prog 17 #[v] w fun e w' => e = .returned (.string (joinP l)) ∧ Below w.heap.size w w' := by
  obtain ⟨a, cap, rfl, hl, hnc, hm, h3⟩ := id h
  by_cases h0 : l = []
  · subst h0
    have HC := hidd (Tryd.strings_Join_none a cap ⟨#[47]⟩ w)
    rw [joinP_nil]
    simp only [List.length_nil]
    clear h h3 hl
    go_enter Tryd.func17, Tryd.ntmps17
    go_wp2_with fail
    refine HC.out.mono ?_
    rintro e w' ⟨rfl, rfl⟩
    go_wp2_with fail
    go_ret
    exact ⟨rfl, Below.refl _ _⟩
  · have hlen : l.length ≠ 0 := fun e => h0 (List.eq_nil_of_length_eq_zero e)
    obtain ⟨b, off, rfl, hb, hc⟩ := h3.resolve_left hlen
    have hj := join_jt h0
    have hsz : (Lib.join (l.map (·.data.toList)) (⟨#[47]⟩ : ByteArray).data.toList).length + 1 = (joined l).length := by
      have := congrArg ByteArray.size hj
      rw [ByteArray.size_append, jt_size] at this
      have e1 : (⟨#[47]⟩ : ByteArray).size = 1 := rfl
      have e2 : (⟨(Lib.join (l.map (·.data.toList)) [47]).toArray⟩ : ByteArray).size = (Lib.join (l.map (·.data.toList)) [47]).length := rfl
      rw [e1, e2] at this
      show (Lib.join (l.map (·.data.toList)) [47]).length + 1 = _
      omega
    have HC := hidd (Tryd.strings_Join b off cap l ⟨#[47]⟩ w (fun j x hx => by
      obtain ⟨hj, he⟩ := List.getElem?_eq_some_iff.1 hx
      rw [hc j (by rw [tcells_len]; exact hj)]
      simp [tcells, he]) hb (by omega) hnc (by omega))
    rw [joinP_cons h0, ← hj]
    obtain ⟨J, hJ⟩ : ∃ J : ByteArray, (⟨(Lib.join (l.map (·.data.toList)) [47]).toArray⟩ : ByteArray) = J := ⟨_, rfl⟩
    have hJ' : (⟨(Lib.join (l.map (·.data.toList)) (⟨#[47]⟩ : ByteArray).data.toList).toArray⟩ : ByteArray) = J := hJ
    have hJz : J.size ≤ 100000 := by
      rw [← hJ]
      show (Lib.join (l.map (·.data.toList)) [47]).length ≤ _
      have e3 : (Lib.join (l.map (·.data.toList)) (⟨#[47]⟩ : ByteArray).data.toList).length = (Lib.join (l.map (·.data.toList)) [47]).length := rfl
      omega
    rw [hJ'] at HC
    rw [hJ]
    have r1 : ¬ (9223372036854775807 < 1 + J.size) := by omega
    clear h hl hc hj hsz hJ hJ' hlen h0
    go_enter Tryd.func17, Tryd.ntmps17
    go_wp2_with fail
    refine HC.out.mono ?_
    rintro e w' ⟨rfl, hb⟩
    go_wp2_with fail
    go_ret
    exact ⟨rfl, hb⟩
end Go.Proofs.YthnlaigabefidaaDoor
