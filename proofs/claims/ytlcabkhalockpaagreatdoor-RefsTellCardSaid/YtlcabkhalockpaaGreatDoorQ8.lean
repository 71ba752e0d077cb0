/- slices.Clone of texts, slices.Sorted over a set's keys. Condition: the slice's cells are there. -/
import Derived.Test.YtlcabkhalockpaaGreatDoorQ7
import Derived.Test.YtlcabkhalockpaaGreatDoorIter
import Derived.Deep.AppendSrc
import Derived.Lib.BufferMore
namespace Go.Proofs.YtlcabkhalockpaaGreatDoor
open Go.RowKit Go.Maps

theorem infoTx3 : (Tryz.prog.info? 9).map (fun i => (i.zero, i.size, i.bytes)) = some (some (.string ⟨#[]⟩), 1, 16) := by kernel_rfl

/-- The tail of a slice of texts, wherever its address is said to lie when it is empty. -/
theorem sl_tail3 {w : World} {b off n cap : Nat} {x : ByteArray} {r : List ByteArray} (h : Sl w (.slice (some ⟨b, off, none⟩) n cap) (tcells (x :: r)) (x :: r).length 1) :
    n = r.length + 1 ∧ w.cell? ⟨b, off, none⟩ = some (.string x) ∧ Sl w (.slice (some ⟨b, off + 1, none⟩) r.length (cap - 1)) (tcells r) r.length 1 ∧ (r = [] → ∀ a c, c ≤ maxLen → Sl w (.slice a 0 c) (tcells r) r.length 1) := by
  obtain ⟨a', cap', he, h1, h2, h2', h3⟩ := h
  simp only [Value.slice.injEq] at he
  obtain ⟨rfl, rfl, rfl⟩ := he
  rcases h3 with h3 | ⟨b', off', e, hb, hc⟩
  · simp at h3
  · simp only [Option.some.injEq, Addr.mk.injEq] at e
    obtain ⟨rfl, rfl, -⟩ := e
    simp only [List.length_cons] at h2 ⊢
    refine ⟨trivial, ?_, ?_, fun hr a c hcm => ?_⟩
    · have := hc 0 (by simp [tcells])
      simpa [tcells] using this
    · refine ⟨_, _, rfl, by rw [tcells_len, Nat.mul_one], by omega, by omega, .inr ⟨b, off + 1, rfl, hb, fun j hj => ?_⟩⟩
      have := hc (j + 1) (by simp [tcells] at hj ⊢; omega)
      rw [show off + 1 + j = off + (j + 1) by omega, this]
      rfl
    · subst hr
      exact ⟨_, _, rfl, rfl, Nat.zero_le _, hcm, .inl rfl⟩
set_option maxRecDepth 100000 in
theorem clone_strs3 (v : Value) (l : List ByteArray) (w : World) (h : Sl w v (tcells l) l.length 1) (h5 : l.length ≤ 1000) :
    Calls Tryz.prog 30 #[v] w fun e w' => ∃ a cap, e = .returned (.slice a l.length cap) ∧ Ow (fun g => w.heap.size ≤ g) w' 9 1 (.slice a l.length cap) l.length (tcells l) ∧ Below w.heap.size w w' := by
  obtain ⟨i0, hi, hz0, hz1, hz2⟩ := info_parts infoTx3
  have h1 := one_tcells l
  obtain ⟨a, cap, rfl, hl, hn, hm, h3⟩ := id h
  cases a with
  | none =>
    have hk : l = [] := by
      rcases h3 with h3 | ⟨b, off, e, -⟩
      · exact List.eq_nil_of_length_eq_zero h3
      · cases e
    subst hk
    clear h h1 h3 hl
    simp only [List.length_nil]
    have hq := Lib.run_eql_slice_nil_nil w 0 cap Tryz.underlying23
    go_enter Tryz.func30, Tryz.ntmps30
    go_wp2_with fail
    go_ret
    exact ⟨none, 0, rfl, Ow.nil _ _ _ _, Below.refl _ _⟩
  | some ad =>
    have hs := Src.sl (P := Tryz.prog) (tx := 23) Tryz.underlying23 (h.ob ((Below.refl w.heap.size w).alloc (Nat.le_refl _) (.cells #[] 9)) (Nat.le_refl _)) h1
    have hown : Ow (fun g => w.heap.size ≤ g) (w.alloc (.cells #[] 9)) 9 1 (.slice (some ⟨w.heap.size, 0, none⟩) 0 0) 0 [] :=
      ⟨by simp, .inr ⟨w.heap.size, 0, 0, #[], rfl, Nat.le_refl _, heap_alloc_new w _, Nat.le_refl _, by unfold maxLen; omega, by simp, by simp⟩⟩
    obtain ⟨n, hnn⟩ : ∃ n, l.length = n := ⟨_, rfl⟩
    obtain ⟨cs, hcs⟩ : ∃ cs, tcells l = cs := ⟨_, rfl⟩
    rw [hnn, hcs] at hs
    rw [hnn] at h5
    rw [hnn, hcs]
    have hq := Lib.run_eql_slice_some_nil w ad n cap Tryz.underlying23
    clear h h1 h3 hl hn hnn hcs
    go_enter Tryz.func30, Tryz.ntmps30
    go_wp2_with (at_builtin; refine wpList_append_ow _ rfl _ _ 23 23 rfl (fun g => w.heap.size ≤ g) ?cF 9 i0 _ 1 16 Tryz.underlying23 hi hz0 hz1 hz2 rfl (by decide) _ _ _ rfl hown _ _ _ rfl hs ?c3 ?c4 ?_)
    case cF => intro g hg; simp at hg; omega
    case c3 => unfold maxLen; omega
    case c4 => omega
    intro v' w1 hown' hgrow
    obtain ⟨a', cap', rfl⟩ := hown'.shape
    go_wp2
    go_ret
    refine ⟨a', cap', by simp, by simpa using hown', ((Below.refl _ _).alloc (Nat.le_refl _) _).grown hgrow (by simp) (fun k hk => ?_)⟩
    simp [Value.ownBlock] at hk; omega

theorem keys_call (m : Nat) (W : World) : Calls Tryz.prog 32 #[.map (some m)] W fun e w' => e = .returned (.func (.func 45) #[] #[.pointer (some ⟨W.heap.size, 0, none⟩)]) ∧ w' = W.alloc (.cells #[.map (some m)] 64) :=
  callsIn_wide.1 (Tryz.maps_Keys_32 (some m) W)
/-- Sorted texts. -/
def srt (ss : List (List UInt8)) : List ByteArray := (ss.mergeSort (fun x y => decide (x ≤ y))).map fun l => ⟨l.toArray⟩
theorem srt_mem {ss : List (List UInt8)} {s : ByteArray} : s ∈ srt ss ↔ s.data.toList ∈ ss := by
  unfold srt
  rw [List.mem_map]
  constructor
  · rintro ⟨x, hx, rfl⟩
    simpa using List.mem_mergeSort.1 hx
  · intro h
    exact ⟨s.data.toList, List.mem_mergeSort.2 h, toList_inj (by simp)⟩
theorem srt_up {ss : List (List UInt8)} (h : ss.Nodup) : Up (srt ss) := by
  have tr : ∀ a b c : List UInt8, decide (a ≤ b) = true → decide (b ≤ c) = true → decide (a ≤ c) = true := fun a b c h1 h2 => by simp only [decide_eq_true_eq] at *; exact List.le_trans h1 h2
  have to : ∀ a b : List UInt8, (decide (a ≤ b) || decide (b ≤ a)) = true := fun a b => by simp only [Bool.or_eq_true, decide_eq_true_eq]; exact List.le_total a b
  have hp := List.pairwise_mergeSort (le := fun x y : List UInt8 => decide (x ≤ y)) tr to ss
  have hn : (ss.mergeSort (fun x y => decide (x ≤ y))).Nodup := (List.mergeSort_perm ss _).nodup_iff.2 h
  unfold Up srt
  rw [List.pairwise_map]
  refine (hp.and hn).imp ?_
  rintro a b ⟨h1, h2⟩
  simp only [decide_eq_true_eq] at h1
  rcases lt_tri a b with k | k | k
  · simpa using k
  · exact absurd k h2
  · exact absurd h1 (List.not_le.2 k)
/-- slices.Sorted over the keys of a set. -/
def SrP (x : List ByteArray) (w : World) (e : Ending) (w' : World) : Prop := ∃ (c : List ByteArray) (v : Value), e = .returned v ∧ Up c ∧ (∀ s, s ∈ c ↔ s ∈ x) ∧ TxI c v w' ∧ Below w.heap.size w w'
theorem sorted_call (m n : Nat) (x : List ByteArray) (w : World) (h : MapS bvals w m n (setF x)) (hn : n ≤ 1000000) :
    Calls Tryz.prog 31 #[.func (.func 45) #[] #[.pointer (some ⟨w.heap.size, 0, none⟩)]] (w.alloc (.cells #[.map (some m)] 64)) (SrP x w) := by
  obtain ⟨D, hD, hnd, hks, hsz⟩ := h.keys
  have hle := strKeys_le hD Tryz.underlying9
  refine (callsIn_wide.1 (Tryz.slices_Sorted_keys_31_32 m n D _ w hD (by unfold maxLen; omega) (by omega))).mono ?_
  rintro e w' ⟨v, ss, rfl, hp, hrow, hnil, hb⟩
  have hlen : (srt ss).length = ss.length := by unfold srt; rw [List.length_map, List.length_mergeSort]
  have hcell : tcells (srt ss) = (ss.mergeSort (fun x y => decide (x ≤ y))).map Go.Proofs.encStr := by
    unfold tcells srt
    rw [List.map_map]
    rfl
  refine ⟨srt ss, v, rfl, srt_up (hp.nodup_iff.2 hnd), fun s => ?_, ⟨?_, fun s hs => ?_⟩, ((Below.refl _ _).alloc (Nat.le_refl _) _).trans (hb.mono (by simp))⟩
  · rw [srt_mem, hp.mem_iff, hks]
    unfold setF
    have e1 : (⟨s.data.toList.toArray⟩ : ByteArray) = s := toList_inj (by simp)
    rw [e1]
    cases hi : inB s x
    · have := inB_no.1 hi; simp [this]
    · have := inB_iff.1 hi; simp [this]
  · rw [hcell, hlen]
    exact Sl.of_owns hrow
  · have := hle _ (hp.mem_iff.1 (srt_mem.1 hs))
    unfold Sz
    rw [Lib.size_eq]
    unfold maxLen at this
    omega
end Go.Proofs.YtlcabkhalockpaaGreatDoor
