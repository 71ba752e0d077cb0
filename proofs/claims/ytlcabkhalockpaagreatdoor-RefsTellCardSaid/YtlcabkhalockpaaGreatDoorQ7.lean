/- The contract of refs.byName. Condition: the packs are there. -/
import Derived.Test.YtlcabkhalockpaaGreatDoorQ6
namespace Go.Proofs.YtlcabkhalockpaaGreatDoor
open Go.RowKit Go.Maps

/-- No pack. -/
def zPv : Pv := ⟨⟨#[]⟩, none, 0, [], ⟨#[]⟩, ⟨#[]⟩, false, none, 0, 0⟩
theorem zero_pack (w : World) : (zeroValue 49).run Tryz.prog w = .ok (pkval zPv) w := by kernel_rfl
/-- The values of the packs' map. -/
def pvals (L : List Pv) : List Value := pkval zPv :: L.map pkval
/-- The last pack of a name. -/
def nmO (L : List Pv) (s : ByteArray) : Option Pv := L.reverse.find? fun p => decide (p.name = s)
def nmF (L : List Pv) (s : ByteArray) : Option Value := (nmO L s).map pkval
def nmP (L : List Pv) (s : ByteArray) : Pv := (nmO L s).getD zPv
theorem nmF_get (L : List Pv) (s : ByteArray) : (nmF L s).getD (pkval zPv) = pkval (nmP L s) := by
  unfold nmF nmP
  cases nmO L s <;> rfl
theorem nmO_some {L : List Pv} {s : ByteArray} {p : Pv} (h : nmO L s = some p) : p ∈ L ∧ p.name = s := by
  unfold nmO at h
  exact ⟨List.mem_reverse.1 (List.mem_of_find?_eq_some h), by simpa using List.find?_some h⟩
theorem nmO_none {L : List Pv} {s : ByteArray} : nmO L s = none ↔ s ∉ nmL L := by
  unfold nmO nmL
  rw [List.find?_eq_none]
  simp only [List.mem_reverse, decide_eq_true_eq, List.mem_map, not_exists, not_and]
theorem nmF_step (L : List Pv) {k : Nat} (h : k < L.length) : (fun i => if i = L[k].name then some (pkval L[k]) else nmF (L.take k) i) = nmF (L.take (k + 1)) := by
  funext i
  unfold nmF nmO
  rw [List.take_succ_eq_append_getElem h, List.reverse_append]
  simp only [List.reverse_cons, List.reverse_nil, List.nil_append, List.singleton_append, List.find?_cons]
  by_cases e : i = L[k].name
  · subst e; simp
  · have e' : ¬ L[k].name = i := fun h => e h.symm
    simp [e, e']
theorem nmF_nil : (fun _ => none : ByteArray → Option Value) = nmF [] := by funext i; rfl
theorem nmP_in {L : List Pv} (hne : ∀ p ∈ L, p.name.size ≠ 0) (s : ByteArray) : (nmP L s).name.toList.isEmpty = !inB s (nmL L) := by
  unfold nmP
  cases h : nmO L s with
  | none =>
    rw [inB_no.2 (nmO_none.1 h), Lib.toList_data]
    rfl
  | some p =>
    obtain ⟨h1, h2⟩ := nmO_some h
    have : s ∈ nmL L := List.mem_map.2 ⟨p, h1, h2⟩
    rw [inB_iff.2 this]
    simp only [Option.getD_some, Bool.not_true]
    rw [Lib.toList_data]
    have h3 := hne p h1
    cases h4 : p.name.data.toList with
    | nil => exact absurd (by rw [Lib.size_eq, h4]; rfl) h3
    | cons a r => rfl

set_option maxRecDepth 100000 in
set_option maxHeartbeats 2000000 in
/-- byName's closure: has a text no pack? -/
theorem byn_cl (b m n : Nat) (L : List Pv) (hne : ∀ p ∈ L, p.name.size ≠ 0) (s : ByteArray) (w : World) (hb : Blk w b [.map (some m)] 61) (hm : MapS (pvals L) w m n (nmF L)) (hs : Sz s) :
    Calls Tryz.prog 43 #[.string s, .pointer (some ⟨b, 0, none⟩)] w fun e w' => e = .returned (.bool (!inB s (nmL L))) ∧ Below w.heap.size w w' := by
  have hl := hm.look (t := 61) (e := 49) Tryz.underlying61 (zero_pack w) (by simp [pvals]) hs
  rw [nmF_get] at hl
  have hn := nmP_in hne s
  have c0 := hb.cell (i := 0) rfl
  clear hb hm hs hne
  generalize nmP L s = pv at *
  obtain ⟨nm, ra, rc, rs, kk, dd, ee, ta, tn, tc⟩ := pv
  simp only [pkval, Pv.rv, Pv.tv] at hl hn
  have HN := hidd hn
  clear hn
  have hfd : (Instr.field 49 (.agg #[.string nm, .slice ra rs.length rc, .string kk, .string dd, .bool ee, .slice ta tn tc]) 0).run Tryz.prog w = .ok (.string nm) w := by kernel_rfl
  go_enter Tryz.func43, Tryz.ntmps43
  go_wp2_with fail
  go_ret
  exact ⟨ret_bool2 HN.out, Below.refl _ _⟩

/-- What byName leaves. -/
def ByP (L : List Pv) (names : List ByteArray) (w : World) (e : Ending) (w' : World) : Prop :=
  ∃ m, e = .returned (.tuple #[.map (some m), .bool (names.all fun s => inB s (nmL L))]) ∧ MapS (pvals L) w' m L.length (nmF L) ∧ w.heap.size ≤ m ∧ Below w.heap.size w w'
structure ByK (w : World) (bx m : Nat) (V : List Value) (n : Nat) (f : ByteArray → Option Value) (W : World) : Prop where
  below : Below w.heap.size w W
  bb : Blk W bx [.map (some m)] 61
  mp : MapS V W m n f
theorem ByK.later {w W W' : World} {bx m n : Nat} {V : List Value} {f : ByteArray → Option Value} (h : ByK w bx m V n f W) (hb : Below W.heap.size W W') : ByK w bx m V n f W' :=
  ⟨below_step h.below hb, h.bb.below hb h.bb.lt, h.mp.low hb⟩

set_option maxRecDepth 100000 in
set_option maxHeartbeats 40000000 in
theorem byName_any (L : List Pv) (names : List ByteArray) (v u : Value) (w : World) (h : PkI L v w) (hu : TxI names u w) (hne : ∀ p ∈ L, p.name.size ≠ 0) (h4 : L.length ≤ 100000) :
    Calls Tryz.prog 29 #[v, u] w (ByP L names w) := by
  obtain ⟨a, cap, rfl⟩ := h.shape
  obtain ⟨ua, uc, rfl⟩ := hu.shape
  have hle := h.1.le
  have hmk : (Sem.run Tryz.prog (Instr.makeMap 61 none) w) = .ok (.map (some w.heap.size)) (w.alloc (.map #[] 0)) := rfl
  have hM0 := MapS.new (pvals L) w
  rw [nmF_nil] at hM0
  have hz : Hid ((w.alloc (.map #[] 0)).heap.size = w.heap.size + 1) := hidd (by simp)
  have hBm : Below w.heap.size w (w.alloc (.map #[] 0)) := (Below.refl _ _).alloc (Nat.le_refl _) _
  have HH := hidd (fun W (hW : Below w.heap.size w W) => h.ob hW)
  have HU := hidd (fun W (hW : Below w.heap.size w W) => hu.ob hW)
  clear h hu
  go_enter Tryz.func29, Tryz.ntmps29
  go_upto_region 2 with fail
  have hK0 : ByK w (w.heap.size + 1) w.heap.size (pvals L) 0 (nmF (L.take 0)) ((w.alloc (.map #[] 0)).alloc (.cells #[.map (some w.heap.size)] 61)) := by
    have hb := Blk.new (w.alloc (.map #[] 0)) [.map (some w.heap.size)] 61
    rw [hz.out] at hb
    exact ⟨hBm.alloc hBm.size _, hb, hM0.low ((Below.refl _ _).alloc (Nat.le_refl _) _)⟩
  generalize (w.alloc (.map #[] 0)).alloc (.cells #[.map (some w.heap.size)] 61) = w1 at *
  clear hmk hM0 hBm hz
  go_wp2_with fail
  go_loopw [12] (fun vi wr => ∃ k : Nat, k ≤ L.length ∧ vi = .int .i64 (k : Int) ∧ ByK w (w.heap.size + 1) w.heap.size (pvals L) k (nmF (L.take k)) wr) (fun vi _ => L.length - (intOf vi).toNat)
  case atStart => exact ⟨0, Nat.zero_le _, rfl, hK0⟩
  case round =>
    obtain ⟨k, hk, rfl, hK⟩ := hrel
    by_cases hlt : k < L.length
    · obtain ⟨b1, o1, rfl, hb1, a0, a1, a2, a3, a4, a5⟩ := (HH.out wr hK.below).at hlt
      have hok := (HH.out wr hK.below).2 _ (List.getElem_mem hlt)
      have p1 : (0 : Int) ≤ (k : Int) := by omega
      have p2 : (k : Int) < (L.length : Int) := by omega
      have hst := nmF_step L hlt
      have hmem : pkval L[k] ∈ pvals L := List.mem_cons_of_mem _ (List.mem_map_of_mem (List.getElem_mem hlt))
      generalize L[k] = pv at *
      obtain ⟨nm, ra, rc, rs, kk, dd, ee, ta, tn, tc⟩ := pv
      have hnm : Sz nm := hok.nm
      simp only [Pv.rv, Pv.tv] at a0 a1 a2 a3 a4 a5
      simp only [pkval, Pv.rv, Pv.tv] at hst hmem
      have hKa := hK.later ((Below.refl wr.heap.size wr).alloc (Nat.le_refl _) (.cells #[.string nm, .slice ra rs.length rc, .string kk, .string dd, .bool ee, .slice ta tn tc] 49))
      have hqb := Blk.new wr [.string nm, .slice ra rs.length rc, .string kk, .string dd, .bool ee, .slice ta tn tc] 49
      have hlo := hK.below.size
      obtain ⟨w6, hrun, hM6, hF6⟩ := hKa.mp.store (t := 61) (e := 49) Tryz.underlying61 (by omega) nm _ hmem hnm
      rw [hst] at hM6
      have hK6 : ByK w (w.heap.size + 1) w.heap.size (pvals L) (k + 1) (nmF (L.take (k + 1))) w6 :=
        ⟨hKa.below.trans (hF6.below hKa.below.size (fun b e => by omega)), hKa.bb.fr hF6 (fun e => by omega), hM6⟩
      have e0 := hKa.bb.cell (i := 0) rfl
      have g0 := hqb.cell (i := 0) rfl
      have g1 := hqb.cell (i := 1) rfl
      have g2 := hqb.cell (i := 2) rfl
      have g3 := hqb.cell (i := 3) rfl
      have g4 := hqb.cell (i := 4) rfl
      have g5 := hqb.cell (i := 5) rfl
      have HK6 := hidd hK6
      clear hst hmem hKa hK hqb hM6 hF6 hK6 hok
      go_wp2_with fail
      go_roundw
      case rel => exact ⟨k + 1, hlt, by go_num, HK6.out⟩
      case measure => simp [intOf]; omega
    · have hkl : k = L.length := by omega
      subst hkl
      rw [List.take_of_length_le (Nat.le_refl _)] at hK
      obtain ⟨q, hq⟩ : ∃ q, names.any (fun s => !inB s (nmL L)) = q := ⟨_, rfl⟩
      have HQ : Hid ((!q) = names.all fun s => inB s (nmL L)) := hidd (by rw [← hq, List.not_any_eq_all_not]; simp)
      have hC := hidd (fun W (hW : Below wr.heap.size wr W) => cf_byName (fun s => !inB s (nmL L)) (.pointer (some ⟨w.heap.size + 1, 0, none⟩)) names (.slice ua names.length uc) W (HU.out W (hK.later hW).below) q hq (fun W2 s hW2 hs => byn_cl (w.heap.size + 1) w.heap.size _ L hne s W2 ((hK.later hW).later hW2).bb ((hK.later hW).later hW2).mp hs))
      have HS : Hid (∀ W, Below wr.heap.size wr W → W.cell? ⟨w.heap.size + 1, 0, none⟩ = some (.map (some w.heap.size))) := hidd (fun W hW => (hK.later hW).bb.cell (i := 0) rfl)
      have HK := hidd hK
      clear hK hq
      go_wp2_with fail
      have hd0 : Below wr.heap.size wr wr.drew := (Below.refl _ wr).drew
      first
        | (go_region_held3 (fun W => W.cell? ⟨w.heap.size + 1, 0, none⟩ = some (.map (some w.heap.size)))
            (first | exact HS.out _ (by assumption))
            (first | (go_at_call 39; (with_reducible refine (hC.out _ (by assumption)).mono ?_); rintro e w9 ⟨rfl, hb9⟩; have hq9 := below_step (w0 := wr) (by assumption) hb9)))
        | fail
      all_goals
        go_wp2_with fail
        go_ret2
        exact ⟨w.heap.size, congrArg (fun b => Ending.returned (.tuple #[.map (some w.heap.size), .bool b])) HQ.out, (HK.out.later hq9).mp, Nat.le_refl _, (HK.out.later hq9).below⟩
end Go.Proofs.YtlcabkhalockpaaGreatDoor
