/- What path.Follow calls: copies of texts, path.Join; tails of slices of texts. Condition: as stated. · The contract of path.Follow. Condition: the tree is there, the text is short, the variables read as listed. -/
import Derived.Test.YtbadnmfmncjdjaaGreatDoorPaF
import Derived.Lib.Join
namespace Go.Proofs.YtbadnmfmncjdjaaGreatDoor
open Go.RowKit Go.Shelf

theorem infoTx2 : (Tryz.prog.info? 9).map (fun i => (i.zero, i.size, i.bytes)) = some (some (.string ⟨#[]⟩), 1, 16) := by kernel_rfl

/-- The tail of a slice of texts, wherever its address is said to lie when it is empty. -/
theorem Sl.tail {w : World} {b off n cap : Nat} {x : ByteArray} {r : List ByteArray} (h : Sl w (.slice (some ⟨b, off, none⟩) n cap) (tcells (x :: r)) (x :: r).length 1) :
    n = r.length + 1 ∧ w.cell? ⟨b, off, none⟩ = some (.string x) ∧ Sl w (.slice (some ⟨b, off + 1, none⟩) r.length (cap - 1)) (tcells r) r.length 1 ∧ (r = [] → ∀ a c, c ≤ maxLen → Sl w (.slice a 0 c) (tcells r) r.length 1) := by
  obtain ⟨a', cap', he, h1, h2, h2', h3⟩ := h
  simp only [Value.slice.injEq] at he
  obtain ⟨rfl, rfl, rfl⟩ := he
  rcases h3 with h3 | ⟨b', off', e, hb, hc⟩
  · simp at h3
  · simp only [Option.some.injEq, Addr.mk.injEq] at e
    obtain ⟨rfl, rfl, -⟩ := e
    simp only [List.length_cons] at h2 ⊢
    refine ⟨trivial, ?_, ?_, fun hr a c hcm => ?_⟩
    · have := hc 0 (by simp [tcells])
      simpa [tcells] using this
    · refine ⟨_, _, rfl, by rw [tcells_len, Nat.mul_one], by omega, by omega, .inr ⟨b, off + 1, rfl, hb, fun j hj => ?_⟩⟩
      have := hc (j + 1) (by simp [tcells] at hj ⊢; omega)
      rw [show off + 1 + j = off + (j + 1) by omega, this]
      rfl
    · subst hr
      exact ⟨_, _, rfl, rfl, Nat.zero_le _, hcm, .inl rfl⟩
/-- The first ones of a slice of texts. -/
theorem Sl.front {w : World} {a : Option Addr} {n cap : Nat} {l : List ByteArray} (h : Sl w (.slice a n cap) (tcells l) l.length 1) (k : Nat) (hk : k ≤ l.length) : Sl w (.slice a k cap) (tcells (l.take k)) (l.take k).length 1 := by
  obtain ⟨a', cap', he, h1, h2, h2', h3⟩ := h
  simp only [Value.slice.injEq] at he
  obtain ⟨rfl, rfl, rfl⟩ := he
  have hl : (l.take k).length = k := by rw [List.length_take]; omega
  refine ⟨_, _, by rw [hl], by rw [tcells_len, Nat.mul_one], by omega, h2', ?_⟩
  rcases h3 with h3 | ⟨b, off, rfl, hb, hc⟩
  · exact .inl (by omega)
  · refine .inr ⟨b, off, rfl, hb, fun j hj => ?_⟩
    have hj' : j < l.length := by rw [tcells_len, hl] at hj; omega
    rw [hc j (by rw [tcells_len]; exact hj')]
    simp [tcells]

set_option maxRecDepth 100000 in
theorem clone_strs (v : Value) (l : List ByteArray) (w : World) (h : Sl w v (tcells l) l.length 1) (h5 : l.length ≤ 1000) :
    Calls Tryz.prog 59 #[v] w fun e w' => ∃ a cap, e = .returned (.slice a l.length cap) ∧ Ow (fun g => w.heap.size ≤ g) w' 9 1 (.slice a l.length cap) l.length (tcells l) ∧ Below w.heap.size w w' := by
  obtain ⟨i0, hi, hz0, hz1, hz2⟩ := info_parts infoTx2
  have h1 := one_tcells l
  obtain ⟨a, cap, rfl, hl, hn, hm, h3⟩ := id h
  cases a with
  | none =>
    have hk : l = [] := by
      rcases h3 with h3 | ⟨b, off, e, -⟩
      · exact List.eq_nil_of_length_eq_zero h3
      · cases e
    subst hk
    clear h h1 h3 hl
    simp only [List.length_nil]
    go_enter Tryz.func59, Tryz.ntmps59
    go_wp2_with fail
    go_ret
    exact ⟨none, 0, rfl, Ow.nil _ _ _ _, Below.refl _ _⟩
  | some ad =>
    have hs := Src.sl (P := Tryz.prog) (tx := 52) Tryz.underlying52 (h.ob ((Below.refl w.heap.size w).alloc (Nat.le_refl _) (.cells #[] 9)) (Nat.le_refl _)) h1
    have hown : Ow (fun g => w.heap.size ≤ g) (w.alloc (.cells #[] 9)) 9 1 (.slice (some ⟨w.heap.size, 0, none⟩) 0 0) 0 [] :=
      ⟨by simp, .inr ⟨w.heap.size, 0, 0, #[], rfl, Nat.le_refl _, heap_alloc_new w _, Nat.le_refl _, by unfold maxLen; omega, by simp, by simp⟩⟩
    obtain ⟨n, hnn⟩ : ∃ n, l.length = n := ⟨_, rfl⟩
    obtain ⟨cs, hcs⟩ : ∃ cs, tcells l = cs := ⟨_, rfl⟩
    rw [hnn, hcs] at hs
    rw [hnn] at h5
    rw [hnn, hcs]
    clear h h1 h3 hl hn hnn hcs
    go_enter Tryz.func59, Tryz.ntmps59
    go_wp2_with (at_builtin; refine wpList_append_ow _ rfl _ _ 52 52 rfl (fun g => w.heap.size ≤ g) ?cF 9 i0 _ 1 16 Tryz.underlying52 hi hz0 hz1 hz2 rfl (by decide) _ _ _ rfl hown _ _ _ rfl hs ?c3 ?c4 ?_)
    case cF => intro g hg; simp at hg; omega
    case c3 => unfold maxLen; omega
    case c4 => omega
    intro v' w1 hown' hgrow
    obtain ⟨a', cap', rfl⟩ := hown'.shape
    go_wp2
    go_ret
    refine ⟨a', cap', by simp, by simpa using hown', ((Below.refl _ _).alloc (Nat.le_refl _) _).grown hgrow (by simp) (fun k hk => ?_)⟩
    simp [Value.ownBlock] at hk; omega

theorem joinP_nil : joinP [] = ⟨#[47]⟩ := rfl
theorem joinP_cons {l : List ByteArray} (h : l ≠ []) : joinP l = jt l := by
  cases l with
  | nil => exact absurd rfl h
  | cons n r =>
    have hst : Stroke (jt (n :: r)) := .inr ⟨n.data.toList ++ joined r, rfl⟩
    have hne : (jt (n :: r)).toList ≠ [] := by rw [Lib.toList_data]; intro e; cases e
    unfold joinP
    rw [path_fix hst]
    exact if_neg (by simpa using hne)
theorem joinTail_L : ∀ r : List (List UInt8), Lib.joinTail [47] r = joinL r
  | [] => rfl
  | p :: r => by
    have ih := joinTail_L r
    unfold Lib.joinTail at ih ⊢
    rw [List.map_cons, List.flatten_cons, ih]
    simp [joinL]
theorem join_jt {l : List ByteArray} (h : l ≠ []) : (⟨#[47]⟩ : ByteArray) ++ ⟨(Lib.join (l.map (·.data.toList)) [47]).toArray⟩ = jt l := by
  cases l with
  | nil => exact absurd rfl h
  | cons n r =>
    apply ba_inj
    rw [jt_data, List.map_cons, Lib.join_cons, joinTail_L]
    simp [joined, joinL]

set_option maxRecDepth 100000 in
theorem join_any (v : Value) (l : List ByteArray) (w : World) (h : Sl w v (tcells l) l.length 1) (hz : (joined l).length ≤ 100000) (hn : l.length ≤ 1000) :
    Calls Tryz.prog 61 #[v] w fun e w' => e = .returned (.string (joinP l)) ∧ Below w.heap.size w w' := by
  obtain ⟨a, cap, rfl, hl, hnc, hm, h3⟩ := id h
  by_cases h0 : l = []
  · subst h0
    have HC := hidd (Tryz.strings_Join_none a cap ⟨#[47]⟩ w)
    rw [joinP_nil]
    simp only [List.length_nil]
    clear h h3 hl
    go_enter Tryz.func61, Tryz.ntmps61
    go_wp2_with fail
    refine HC.out.mono ?_
    rintro e w' ⟨rfl, rfl⟩
    go_wp2_with fail
    go_ret
    exact ⟨rfl, Below.refl _ _⟩
  · have hlen : l.length ≠ 0 := fun e => h0 (List.eq_nil_of_length_eq_zero e)
    obtain ⟨b, off, rfl, hb, hc⟩ := h3.resolve_left hlen
    have hj := join_jt h0
    have hsz : (Lib.join (l.map (·.data.toList)) (⟨#[47]⟩ : ByteArray).data.toList).length + 1 = (joined l).length := by
      have := congrArg ByteArray.size hj
      rw [ByteArray.size_append, jt_size] at this
      have e1 : (⟨#[47]⟩ : ByteArray).size = 1 := rfl
      have e2 : (⟨(Lib.join (l.map (·.data.toList)) [47]).toArray⟩ : ByteArray).size = (Lib.join (l.map (·.data.toList)) [47]).length := rfl
      rw [e1, e2] at this
      show (Lib.join (l.map (·.data.toList)) [47]).length + 1 = _
      omega
    have HC := hidd (Tryz.strings_Join b off cap l ⟨#[47]⟩ w (fun j x hx => by
      obtain ⟨hj, he⟩ := List.getElem?_eq_some_iff.1 hx
      rw [hc j (by rw [tcells_len]; exact hj)]
      simp [tcells, he]) hb (by omega) hnc (by omega))
    rw [joinP_cons h0, ← hj]
    obtain ⟨J, hJ⟩ : ∃ J : ByteArray, (⟨(Lib.join (l.map (·.data.toList)) [47]).toArray⟩ : ByteArray) = J := ⟨_, rfl⟩
    have hJ' : (⟨(Lib.join (l.map (·.data.toList)) (⟨#[47]⟩ : ByteArray).data.toList).toArray⟩ : ByteArray) = J := hJ
    have hJz : J.size ≤ 100000 := by
      rw [← hJ]
      show (Lib.join (l.map (·.data.toList)) [47]).length ≤ _
      have e3 : (Lib.join (l.map (·.data.toList)) (⟨#[47]⟩ : ByteArray).data.toList).length = (Lib.join (l.map (·.data.toList)) [47]).length := rfl
      omega
    rw [hJ'] at HC
    rw [hJ]
    have r1 : ¬ (9223372036854775807 < 1 + J.size) := by omega
    clear h hl hc hj hsz hJ hJ' hlen h0
    go_enter Tryz.func61, Tryz.ntmps61
    go_wp2_with fail
    refine HC.out.mono ?_
    rintro e w' ⟨rfl, hb⟩
    go_wp2_with fail
    go_ret
    exact ⟨rfl, hb⟩
end Go.Proofs.YtbadnmfmncjdjaaGreatDoor

namespace Go.Proofs.YtbadnmfmncjdjaaGreatDoor
open Go.RowKit Go.Shelf

/-- What path.Follow gives. -/
def FolP (E : Nat → Addr) (t : Lt) (s : ByteArray) (w : World) (e : Ending) (w' : World) : Prop :=
  Below w.heap.size w w' ∧ ((∃ c, followOf t s = .error c ∧ c ≠ 0 ∧ c ≤ 10 ∧ e = .returned (.tuple #[.string ⟨#[]⟩, evc E c])) ∨ (∃ r, followOf t s = .ok r ∧ e = .returned (.tuple #[.string (joinP r), .nilIface])))
def slLen : Value → Nat
  | .slice _ n _ => n
  | _ => 0

/-- What holds at the loop's head. -/
structure FolI (E : Nat → Addr) (B : Nat) (w : World) (t : Lt) (R : Except Nat (List ByteArray)) (lk : Nat) (todo cur : List ByteArray) (tv cv : Value) (W : World) : Prop where
  below : Below w.heap.size w W
  env : Env trGs B W E
  ml : Ml W
  ok : t.Ok W
  bx : Blk W w.heap.size (ncells t) 24
  hlk : lk ≤ 16
  run : fol t (16 - lk) todo cur = R
  good : GoodC t cur
  tsl : Sl W tv (tcells todo) todo.length 1
  csl : Sl W cv (tcells cur) cur.length 1
  tlen : todo.length ≤ 8 + 41 * lk
  tsz : ∀ x ∈ todo, x.size ≤ 1000000
theorem FolI.later {E : Nat → Addr} {B : Nat} {w W W' : World} {t : Lt} {R : Except Nat (List ByteArray)} {lk : Nat} {todo cur : List ByteArray} {tv cv : Value} (h : FolI E B w t R lk todo cur tv cv W) (hb : Below W.heap.size W W') : FolI E B w t R lk todo cur tv cv W' :=
  ⟨h.below.trans (hb.mono h.below.size), h.env.ob hb, h.ml.ob hb, h.ok.ob hb, h.bx.below hb h.bx.lt, h.hlk, h.run, h.good, h.tsl.ob hb (Nat.le_refl _), h.csl.ob hb (Nat.le_refl _), h.tlen, h.tsz⟩
theorem FolI.step {E : Nat → Addr} {B : Nat} {w W W' : World} {t : Lt} {R : Except Nat (List ByteArray)} {lk : Nat} {n : ByteArray} {rest cur cur2 : List ByteArray} {tv cv tv2 cv2 : Value} (h : FolI E B w t R lk (n :: rest) cur tv cv W)
    (hb : Below W.heap.size W W') (hr : fol t (16 - lk) (n :: rest) cur = fol t (16 - lk) rest cur2) (hg : GoodC t cur2) (ht : Sl W' tv2 (tcells rest) rest.length 1) (hc : Sl W' cv2 (tcells cur2) cur2.length 1) : FolI E B w t R lk rest cur2 tv2 cv2 W' :=
  ⟨h.below.trans (hb.mono h.below.size), h.env.ob hb, h.ml.ob hb, h.ok.ob hb, h.bx.below hb h.bx.lt, h.hlk, hr ▸ h.run, hg, ht, hc, by have := h.tlen; simp at this; omega, fun x hx => h.tsz x (List.mem_cons_of_mem _ hx)⟩
theorem link_size {α : Type} {t : Tr α} (h : ownE t = 0) (hk : t.kind = kLink) : t.data.size ≤ 40 := by
  unfold ownE at h
  split at h; omega
  split at h; omega
  split at h; omega
  rename_i h3
  exact Nat.not_lt.1 fun hc => h3 (.inr ⟨hk, .inr hc⟩)
theorem pieces_le (s : ByteArray) : (pieces s).length ≤ s.size + 1 := by
  rw [← pieces_len]
  have := Lib.countB_le ⟨#[47]⟩ (by decide) s.size s (Nat.le_refl _)
  omega
theorem prefix_head (l : List UInt8) : Lib.hasPrefix l [47] = true ↔ l.head? = some 47 := by
  unfold Lib.hasPrefix
  cases l with
  | nil => exact ⟨(fun h => by cases h), (fun h => by cases h)⟩
  | cons c r =>
    show ((47 : UInt8) == c && List.isPrefixOf [] r) = true ↔ some c = some 47
    have e : List.isPrefixOf ([] : List UInt8) r = true := by cases r <;> rfl
    rw [e, Bool.and_true, beq_iff_eq, Option.some.injEq]
    exact eq_comm
theorem good_len {α : Type} {t : Tr α} {cur : List ByteArray} (h0 : treeE t = 0) (h : GoodC t cur) : cur.length ≤ 8 := by
  rcases h.2 with rfl | ⟨x, hx, -⟩
  · simp
  · exact preR_deep h0 _ (atT_mem hx)

set_option maxRecDepth 100000 in
set_option maxHeartbeats 40000000 in
theorem follow_any (E : Nat → Addr) (B : Nat) (t : Lt) (s : ByteArray) (w : World) (ht : t.Ok w) (hE : Env trGs B w E) (hM : Ml w) (hs : s.size ≤ 1000000) (h0 : treeE t = 0) :
    Calls Tryz.prog 31 #[nval t, .string s] w (FolP E t s w) := by
  obtain ⟨a, cap, hv⟩ := ht.shape
  have hB0 : Below w.heap.size w (w.alloc (.cells #[.string t.kind, .string t.data, .bool t.exec, .slice a t.kids.length cap] 24)) := (Below.refl _ _).alloc (Nat.le_refl _) _
  have hN := names_ok E B t s _ (ht.ob hB0) (hE.ob hB0) (hM.ob hB0) (by omega) h0
  have hnc : ncells t = [.string t.kind, .string t.data, .bool t.exec, .slice a t.kids.length cap] := by unfold ncells; rw [hv]
  have hb0 : Blk (w.alloc (.cells #[.string t.kind, .string t.data, .bool t.exec, .slice a t.kids.length cap] 24)) w.heap.size (ncells t) 24 := by rw [hnc]; exact Blk.new _ _ _
  have HT := hidd (ht.ob hB0)
  have HE0 := hidd (hE.ob hB0)
  have HM0 := hidd (hM.ob hB0)
  have H0 := hidd h0
  unfold nval at hN ⊢
  rw [hv] at hN ⊢
  have HN := hidd hN
  clear hN ht hE hM h0
  go_enter Tryz.func31, Tryz.ntmps31
  go_wp2_with fail
  refine HN.out.mono ?_
  rintro e w2 ⟨hb2, hr⟩
  have hB2 := hB0.trans (hb2.mono hB0.size)
  have hk2 := hb0.below hb2 hb0.lt
  have HT2 := hidd (HT.out.ob hb2)
  have HE2 := hidd (HE0.out.ob hb2)
  have HM2 := hidd (HM0.out.ob hb2)
  clear HN HT HE0 HM0 hb2 hB0 hb0
  rcases hr with ⟨l, v, hsp, rfl, hsl⟩ | ⟨hsp, rfl⟩
  · obtain ⟨la, lc, rfl, -⟩ := id hsl
    have hR := follow_some H0.out hsp
    have hnm := splitOf_names hsp
    obtain ⟨R, hRR⟩ : ∃ R, fol t 16 l [] = R := ⟨_, rfl⟩
    have HF : Hid (followOf t s = R) := hidd (hR.trans hRR)
    have hI : FolI E B w t R 0 l [] (.slice la l.length lc) (.slice none 0 0) w2 :=
      ⟨hB2, HE2.out, HM2.out, HT2.out, hk2, Nat.zero_le _, hRR, GoodC.nil t, hsl, Sl.nil _ _, by omega, fun x hx => by
        have h2 := hnm.2
        rw [List.all_eq_true] at h2
        have := h2 x hx
        unfold isName at this
        simp only [Bool.and_eq_true, decide_eq_true_eq] at this
        omega⟩
    clear hR hRR hnm hsl hsp HT2 HE2 HM2 hB2
    go_wp2_with fail
    go_loopw [6, 8, 9, 10, 11, 12, 13] (fun tv cv lv _ _ _ _ wr => ∃ (lk : Nat) (todo cur : List ByteArray), lv = .int .i64 (lk : Int) ∧ FolI E B w t R lk todo cur tv cv wr) (fun tv _ lv _ _ _ _ _ => (17 - (intOf lv).toNat) * 1000 + slLen tv)
    case atStart => exact ⟨0, l, [], rfl, hI⟩
    case round =>
      obtain ⟨lk, todo, cur, rfl, hI⟩ := hrel
      have hlk := hI.hlk
      have htl := hI.tlen
      have hg := hI.good
      have hcl := good_len H0.out hg
      obtain ⟨ta, tcap, rfl, -⟩ := id hI.tsl
      obtain ⟨ca, ccap, rfl, -⟩ := id hI.csl
      cases todo with
      | nil =>
        have HF2 : Hid (followOf t s = .ok cur) := hidd (by
          have := hI.run
          rw [fol_nil] at this
          rw [HF.out, ← this])
        have HJ := hidd (join_any _ cur wr hI.csl (by
          have := joined_bd (l := cur) (fun x hx => by
            have h2 := hg.1
            rw [List.all_eq_true] at h2
            have := h2 x hx
            unfold isName at this
            simp only [Bool.and_eq_true, decide_eq_true_eq] at this
            omega)
          omega) (by omega))
        have hBw := hI.below
        simp only [List.length_nil]
        clear hI hg
        go_wp2_with fail
        refine HJ.out.mono ?_
        rintro e w9 ⟨rfl, hb9⟩
        have hB9 := hBw.trans (hb9.mono hBw.size)
        go_wp2_with fail
        go_ret2
        exact ⟨hB9, .inr ⟨cur, HF2.out, rfl⟩⟩
      | cons n rest =>
        obtain ⟨b, off, rfl, hb, hc, -⟩ := hI.tsl.at1 (i := 0) (by simp)
        obtain ⟨-, hcell, htail, hempty⟩ := hI.tsl.tail
        have hnz := hI.tsz n (List.mem_cons_self ..)
        simp only [List.length_cons] at *
        have p0 : (0 : Int) < ((rest.length + 1 : Nat) : Int) := by omega
        clear hc
        have hA2s : Sl wr (.slice (if tcap = 1 then some (⟨b, off, none⟩ : Addr) else some ⟨b, off + 1, none⟩) rest.length (tcap - 1)) (tcells rest) rest.length 1 := by
          by_cases hc1 : tcap = 1
          · have hr0 : rest = [] := by
              obtain ⟨_, _, he, _, h2, _⟩ := hI.tsl
              simp only [Value.slice.injEq] at he
              exact List.eq_nil_of_length_eq_zero (by omega)
            rw [if_pos hc1, hr0]
            have := hempty hr0 (some ⟨b, off, none⟩) (tcap - 1) (by unfold maxLen; omega)
            rw [hr0] at this
            exact this
          · rw [if_neg hc1]; exact htail
        obtain ⟨A2, hA2⟩ : ∃ A2, (if tcap = 1 then some (⟨b, off, none⟩ : Addr) else some ⟨b, off + 1, none⟩) = A2 := ⟨_, rfl⟩
        rw [hA2] at hA2s
        go_upto_region 9 with fail
        clear hA2 htail hempty hcell
        have HI := hidd hI
        have HA2 := hidd hA2s
        have HG := hidd hg
        clear hI hA2s hg
        by_cases h1 : n.data.toList = [] ∨ n.data.toList = [46]
        · have HN := hidd (HI.out.step (Below.refl _ _) (fol_dot h1) HG.out HA2.out HI.out.csl)
          rcases h1 with h1 | h1
          · have z2 : n.toList = [] := by rw [Lib.toList_data]; exact h1
            clear h1
            go_wp2_with fail
            go_roundw
            case rel => exact ⟨lk, rest, cur, rfl, HN.out⟩
            case measure => simp [slLen, intOf]
          · have z2 : (n.toList == []) = false := by rw [Lib.toList_data, h1]; rfl
            have z3 : (n.toList == [46]) = true := by rw [Lib.toList_data, h1]; rfl
            clear h1
            go_wp2_with fail
            go_roundw
            case rel => exact ⟨lk, rest, cur, rfl, HN.out⟩
            case measure => simp [slLen, intOf]
        have z2 : (n.toList == []) = false := by
          rw [Lib.toList_data]
          cases hq : (n.data.toList == []) with
          | false => rfl
          | true => exact absurd (.inl (by simpa using hq)) h1
        have z3 : (n.toList == [46]) = false := by
          rw [Lib.toList_data]
          cases hq : (n.data.toList == [46]) with
          | false => rfl
          | true => exact absurd (.inr (by simpa using hq)) h1
        by_cases h2 : n.data.toList = [46, 46]
        · have z4 : (n.toList == [46, 46]) = true := by rw [Lib.toList_data, h2]; rfl
          have HDL : Hid (cur.dropLast = cur.take (cur.length - 1)) := hidd (List.dropLast_eq_take)
          have HN := hidd (HI.out.step (Below.refl _ _) (fol_up h2) (HG.out.up H0.out) HA2.out (by
            have := HI.out.csl.front (cur.length - 1) (by omega)
            rw [← HDL.out] at this
            exact this))
          by_cases hc0 : cur.length = 0
          · have hm1 : cur.length - 1 = 0 := by omega
            rw [hm1] at HN
            rw [hc0]
            clear h1 h2
            go_wp2_with fail
            go_roundw
            case rel => exact ⟨lk, rest, cur.dropLast, rfl, by
              have e0 : (max (0 : Int) (-1)).toNat = 0 := by decide
              rw [e0]; exact HN.out⟩
            case measure => simp [slLen, intOf]
          · obtain ⟨m, hm⟩ : ∃ m, cur.length = m + 1 := ⟨cur.length - 1, by omega⟩
            have hm1 : cur.length - 1 = m := by omega
            rw [hm1] at HN
            have pc1 : m + 1 ≤ ccap := by
              obtain ⟨_, _, he, _, h3, _⟩ := HI.out.csl
              simp only [Value.slice.injEq] at he
              omega
            have pc2 : (m : Int) ≤ (ccap : Int) := by omega
            have pc3 : (0 : Int) ≤ (m : Int) := by omega
            rw [hm]
            clear h1 h2 hc0 hm1
            go_wp2_with fail
            go_roundw
            case rel => exact ⟨lk, rest, cur.dropLast, rfl, HN.out⟩
            case measure => simp [slLen, intOf]
        have z4 : (n.toList == [46, 46]) = false := by
          rw [Lib.toList_data]
          cases hq : (n.data.toList == [46, 46]) with
          | false => rfl
          | true => exact absurd (by simpa using hq) h2
        have HNM := hidd (name_any n wr (by omega))
        cases h3 : isName n
        · rw [h3] at HNM
          have HF2 : Hid (followOf t s = .error 5) := hidd (by
            have := HI.out.run
            rw [fol_bad h1 h2 h3] at this
            rw [HF.out, ← this])
          have HV : Hid (evc E 5 = .iface 203 (.pointer (some (E 2)))) := hidd rfl
          clear h1 h2 h3
          go_wp2_with fail
          refine HNM.out.mono ?_
          rintro e w9 ⟨rfl, hb9⟩
          have hcE := (HI.out.env.ob hb9).cell 2 (by decide)
          unfold erv at hcE
          have hB9 := HI.out.below.trans (hb9.mono HI.out.below.size)
          clear hb9
          go_wp2_with fail
          go_quiet (fail)
          go_wp2_with fail
          go_ret2
          exact ⟨hB9.trans ((Below.drewN _ _ _).mono hB9.size), .inl ⟨5, HF2.out, by decide, by decide, by rw [HV.out]; rfl⟩⟩
        · rw [h3] at HNM
          obtain ⟨i0, hii, hz0, hz1, hz2⟩ := info_parts infoTx2
          clear h1 h2
          go_wp2_with fail
          refine HNM.out.mono ?_
          rintro e w3 ⟨rfl, hb3⟩
          have HI3 := hidd (HI.out.later hb3)
          have HA3 := hidd (HA2.out.ob hb3 (Nat.le_refl _))
          clear hb3 HI HA2 HNM
          go_wp2_with fail
          refine (clone_strs _ cur w3 HI3.out.csl (by omega)).mono ?_
          rintro e w4 ⟨xa, xc, rfl, hoc, hb4⟩
          have hw3 := hb4.size
          have hs1 := Src.new (P := Tryz.prog) (size := 1) (tx := 52) Tryz.underlying52 w4 w4.heap.size rfl [.string n] 9 rfl (by intro u hu; simp at hu; subst hu; rfl) 1
          have hbo := hoc.blk
          obtain ⟨m, hm⟩ : ∃ m, cur.length = m := ⟨_, rfl⟩
          have HM := hidd hm
          rw [hm] at hoc hbo
          rw [hm]
          clear hm
          go_wp2_with (at_builtin; refine wpList_append_ow _ rfl _ _ 52 52 rfl (fun g => w3.heap.size ≤ g) ?cF 9 i0 _ 1 16 Tryz.underlying52 hii hz0 hz1 hz2 rfl (by decide) _ _ _ rfl (hoc.alloc _) _ _ _ rfl hs1 ?c3 ?c4 ?_)
          case cF => intro g hg; simp at hg; omega
          case c3 => have := HM.out; unfold maxLen; omega
          case c4 => have := HM.out; omega
          intro v5 w5 ho5 hg5
          have hb35 : Below w3.heap.size w3 w5 := (hb4.alloc hb4.size (.cells #[.string n] 9)).grown hg5 (by simp; omega) (fun k hk => (hbo k hk).1)
          have hI5 := HI3.out.later hb35
          have hA5 := HA3.out.ob hb35 (Nat.le_refl _)
          have hn5 : Sl w5 v5 (tcells (cur ++ [n])) (cur ++ [n]).length 1 := by
            have := ho5.sl
            rw [show tcells (cur ++ [n]) = tcells cur ++ [.string n] by simp [tcells], show (cur ++ [n]).length = m + 1 by rw [List.length_append, HM.out]; rfl]
            exact this
          obtain ⟨va5, vc5, rfl⟩ := ho5.shape
          have hbx5 := hI5.bx
          rw [hnc] at hbx5
          have x0 := hbx5.cell (i := 0) rfl
          have x1 := hbx5.cell (i := 1) rfl
          have x2 := hbx5.cell (i := 2) rfl
          have x3 := hbx5.cell (i := 3) rfl
          have hAT := at_any t _ (cur ++ [n]) w5 hI5.ok H0.out hn5
          unfold nval at hAT
          rw [hv] at hAT
          have HAT := hidd hAT
          have HAO := hidd (fun x (e : atT t (cur ++ [n]) = some x) => (⟨atT_right H0.out e, atT_ok hI5.ok e⟩ : treeE x = 0 ∧ x.Ok w5))
          have HI5 := hidd hI5
          have HA5 := hidd hA5
          have HN5 := hidd hn5
          clear hb35 hI5 hA5 hn5 ho5 hg5 hs1 hbo hoc hb4 HI3 HA3 hAT hbx5
          go_wp2_with fail
          refine HAT.out.mono ?_
          rintro e w6 ⟨hb6, hr⟩
          have HI6 := hidd (HI5.out.later hb6)
          have HA6 := hidd (HA5.out.ob hb6 (Nat.le_refl _))
          have HN6 := hidd (HN5.out.ob hb6 (Nat.le_refl _))
          have hw5 := hb6.size
          clear x0 x1 x2 x3 HI5 HA5 HN5 HAT
          rcases hr with ⟨x, hx, rfl⟩ | ⟨hx, rfl⟩
          · obtain ⟨hx0, hxo⟩ := HAO.out x hx
            have hxo6 := hxo.ob hb6
            obtain ⟨xa', xc', hxv⟩ := hxo.shape
            obtain ⟨kx, dx, ex, vx, ksx⟩ := x
            simp only [Tr.v, Tr.kids] at hxv
            subst hxv
            rw [show nval (Tr.mk kx dx ex (.slice xa' ksx.length xc') ksx : Lt) = .agg #[.string kx, .string dx, .bool ex, .slice xa' ksx.length xc'] from rfl]
            have hBa : Below w6.heap.size w6 (w6.alloc (.cells #[.string kx, .string dx, .bool ex, .slice xa' ksx.length xc'] 24)) := (Below.refl _ _).alloc (Nat.le_refl _) _
            have hq := Blk.new w6 [.string kx, .string dx, .bool ex, .slice xa' ksx.length xc'] 24
            have HI7 := hidd (HI6.out.later hBa)
            have HA7 := hidd (HA6.out.ob hBa (Nat.le_refl _))
            have HN7 := hidd (HN6.out.ob hBa (Nat.le_refl _))
            by_cases hl : kx = kLink
            · have q1 : (kx.toList == [108, 105, 110, 107]) = true := by rw [hl, Lib.toList_data]; rfl
              have hdz : dx.size ≤ 40 := link_size (treeE_own hx0).1 hl
              have y0 := hq.cell (i := 0) rfl
              have y1 := hq.cell (i := 1) rfl
              by_cases h16 : lk = 16
              · subst h16
                have HF2 : Hid (followOf t s = .error 9) := hidd (by
                  have := HI6.out.run
                  rw [show 16 - 16 = 0 from rfl, fol_last h3 hx hl] at this
                  rw [HF.out, ← this])
                have HV : Hid (evc E 9 = .iface 203 (.pointer (some (E 3)))) := hidd rfl
                have hcE := HI7.out.env.cell 3 (by decide)
                unfold erv at hcE
                have hB9 := HI7.out.below
                clear hx hx0 hxo hxo6 hb6 HAO hBa hq hl
                go_wp2_with fail
                go_quiet (fail)
                go_wp2_with fail
                go_ret2
                exact ⟨hB9.trans ((Below.drewN _ _ _).mono hB9.size), .inl ⟨9, HF2.out, by decide, by decide, by rw [HV.out]; rfl⟩⟩
              · have d16 : decide ((16 : Int) < (lk : Int) + 1) = false := decide_eq_false (by omega)
                have d16' : ¬ ((16 : Int) < (lk : Int) + 1) := by omega
                obtain ⟨pa, pr, hpc⟩ : ∃ a r, pieces dx = a :: r := by
                  cases hp : pieces dx with
                  | nil => exact absurd hp (pieces_ne dx)
                  | cons a r => exact ⟨a, r, rfl⟩
                have hpl := pieces_le dx
                rw [hpc] at hpl
                simp only [List.length_cons] at hpl
                have HSPL := hidd (ssplit_any dx (w6.alloc (.cells #[.string kx, .string dx, .bool ex, .slice xa' ksx.length xc'] 24)) HI7.out.ml (by omega) hpc)
                have hrun : fol t (16 - lk) (n :: rest) cur = fol t (16 - (lk + 1)) (pieces dx ++ rest) (if dx.data.toList.head? = some 47 then [] else cur) := by
                  rw [show 16 - lk = (16 - (lk + 1)) + 1 by omega]
                  exact fol_link h3 hx hl
                have HRUN := hidd (hrun.symm.trans HI6.out.run)
                have HPC := hidd hpc
                obtain ⟨HPV, hpv⟩ : ∃ b, Lib.hasPrefix dx.data.toList [47] = b := ⟨_, rfl⟩
                have HPVV := hidd hpv
                clear hx hx0 hxo hxo6 hb6 HAO hBa hl hrun hpc
                cases HPV
                · have hif : (if dx.data.toList.head? = some 47 then [] else cur) = cur := if_neg (fun h => by have := (prefix_head _).2 h; rw [HPVV.out] at this; cases this)
                  have HIF := hidd hif
                  have hHP := Tryz.strings_HasPrefix dx ⟨#[47]⟩ (w6.alloc (.cells #[.string kx, .string dx, .bool ex, .slice xa' ksx.length xc'] 24))
                  rw [show Lib.hasPrefix dx.data.toList (⟨#[47]⟩ : ByteArray).data.toList = false from HPVV.out] at hHP
                  have HHP := hidd hHP
                  have hBs : Below (w6.alloc (.cells #[.string kx, .string dx, .bool ex, .slice xa' ksx.length xc'] 24)).heap.size (w6.alloc (.cells #[.string kx, .string dx, .bool ex, .slice xa' ksx.length xc'] 24)) ((w6.alloc (.cells #[.string kx, .string dx, .bool ex, .slice xa' ksx.length xc'] 24)).alloc (.cells (tcells (pa :: pr)).toArray 9)) := (Below.refl _ _).alloc (Nat.le_refl _) _
                  have hos : Ow (fun g => w6.heap.size ≤ g) ((w6.alloc (.cells #[.string kx, .string dx, .bool ex, .slice xa' ksx.length xc'] 24)).alloc (.cells (tcells (pa :: pr)).toArray 9)) 9 1 (.slice (some ⟨w6.heap.size + 1, 0, none⟩) (pr.length + 1) (pr.length + 1)) (pr.length + 1) (tcells (pa :: pr)) := by
                    have hbk := Blk.new (w6.alloc (.cells #[.string kx, .string dx, .bool ex, .slice xa' ksx.length xc'] 24)) (tcells (pa :: pr)) 9
                    have e1 : (w6.alloc (.cells #[.string kx, .string dx, .bool ex, .slice xa' ksx.length xc'] 24)).heap.size = w6.heap.size + 1 := by simp
                    rw [e1] at hbk
                    have := Ow.of_owns (F := fun g => w6.heap.size ≤ g) (hbk.owns (base := w6.heap.size + 1) (Nat.le_refl _) (by rw [tcells_len]; unfold maxLen; simp only [List.length_cons]; omega)) (fun g hg => by omega)
                    rw [show (tcells (pa :: pr)).length = pr.length + 1 by rw [tcells_len]; rfl] at this
                    exact this
                  have hsz6 : (w6.alloc (.cells #[.string kx, .string dx, .bool ex, .slice xa' ksx.length xc'] 24)).heap.size = w6.heap.size + 1 := by simp
                  have hs2 := Src.sl (P := Tryz.prog) (tx := 52) Tryz.underlying52 (HA7.out.ob hBs (Nat.le_refl _)) (one_tcells rest)
                  have HCS := hidd (HI7.out.csl : Sl (w6.alloc (.cells #[.string kx, .string dx, .bool ex, .slice xa' ksx.length xc'] 24)) _ (tcells cur) cur.length 1)
                  have hbo2 := hos.blk
                  rw [hsz6] at HSPL
                  obtain ⟨CS, hCS⟩ : ∃ CS, (tcells (pa :: pr)).toArray = CS := ⟨_, rfl⟩
                  obtain ⟨TP, hTP⟩ : ∃ TP, tcells (pa :: pr) = TP := ⟨_, rfl⟩
                  have HTP := hidd hTP
                  obtain ⟨TR, hTR⟩ : ∃ TR, tcells rest = TR := ⟨_, rfl⟩
                  have HTR := hidd hTR
                  rw [hCS] at HSPL hos hs2 hBs
                  rw [hTP] at hos
                  rw [hTR] at hs2
                  clear hif hHP hCS hTP hTR hpv
                  go_wp2_with fail
                  refine HHP.out.mono ?_
                  rintro e w8 ⟨rfl, rfl⟩
                  go_wp2_with fail
                  refine HSPL.out.mono ?_
                  rintro e w8 ⟨rfl, rfl⟩
                  go_wp2_with (at_builtin; refine wpList_append_ow _ rfl _ _ 52 52 rfl (fun g => w6.heap.size ≤ g) ?cF 9 i0 _ 1 16 Tryz.underlying52 hii hz0 hz1 hz2 rfl (by decide) _ _ _ rfl hos _ _ _ rfl hs2 ?c3 ?c4 ?_)
                  case cF => intro g hg; simp at hg; omega
                  case c3 => unfold maxLen; omega
                  case c4 => omega
                  intro v10 w10 ho10 hg10
                  obtain ⟨va10, vc10, rfl⟩ := ho10.shape
                  have hb10 : Below (w6.alloc (.cells #[.string kx, .string dx, .bool ex, .slice xa' ksx.length xc'] 24)).heap.size (w6.alloc (.cells #[.string kx, .string dx, .bool ex, .slice xa' ksx.length xc'] 24)) w10 := hBs.grown hg10 hBs.size (fun k hk => by simp [Value.ownBlock] at hk; omega)
                  have hlen10 : (pieces dx ++ rest).length = pr.length + 1 + rest.length := by rw [List.length_append, HPC.out]; rfl
                  have HN10 : Hid (FolI E B w t R (lk + 1) (pieces dx ++ rest) cur (.slice va10 (pr.length + 1 + rest.length) vc10) (.slice ca m ccap) w10) := hidd ⟨HI7.out.below.trans (hb10.mono HI7.out.below.size), HI7.out.env.ob hb10, HI7.out.ml.ob hb10, HI7.out.ok.ob hb10, HI7.out.bx.below hb10 HI7.out.bx.lt, by omega,
                    by have := HRUN.out; rw [HIF.out] at this; exact this, HG.out, by
                      have := ho10.sl
                      rw [hlen10, show tcells (pieces dx ++ rest) = TP ++ TR by rw [← HTP.out, ← HTR.out, HPC.out]; simp [tcells]]
                      exact this, by have := HCS.out.ob hb10 (Nat.le_refl _); rw [HM.out] at this ⊢; exact this, by rw [hlen10]; omega, fun x hx => by
                      rcases List.mem_append.1 hx with h | h
                      · have := pieces_size h; omega
                      · exact HI7.out.tsz x (List.mem_cons_of_mem _ h)⟩
                  clear ho10 hg10 hbo2 hs2 hos hBs HCS HSPL HHP
                  go_wp2_with fail
                  go_roundw
                  case rel => exact ⟨lk + 1, pieces dx ++ rest, cur, by go_num, HN10.out⟩
                  case measure => simp [slLen, intOf]; omega
                · have hif : (if dx.data.toList.head? = some 47 then [] else cur) = [] := if_pos ((prefix_head _).1 HPVV.out)
                  have HIF := hidd hif
                  have hHP := Tryz.strings_HasPrefix dx ⟨#[47]⟩ (w6.alloc (.cells #[.string kx, .string dx, .bool ex, .slice xa' ksx.length xc'] 24))
                  rw [show Lib.hasPrefix dx.data.toList (⟨#[47]⟩ : ByteArray).data.toList = true from HPVV.out] at hHP
                  have HHP := hidd hHP
                  have hBs : Below (w6.alloc (.cells #[.string kx, .string dx, .bool ex, .slice xa' ksx.length xc'] 24)).heap.size (w6.alloc (.cells #[.string kx, .string dx, .bool ex, .slice xa' ksx.length xc'] 24)) ((w6.alloc (.cells #[.string kx, .string dx, .bool ex, .slice xa' ksx.length xc'] 24)).alloc (.cells (tcells (pa :: pr)).toArray 9)) := (Below.refl _ _).alloc (Nat.le_refl _) _
                  have hos : Ow (fun g => w6.heap.size ≤ g) ((w6.alloc (.cells #[.string kx, .string dx, .bool ex, .slice xa' ksx.length xc'] 24)).alloc (.cells (tcells (pa :: pr)).toArray 9)) 9 1 (.slice (some ⟨w6.heap.size + 1, 0, none⟩) (pr.length + 1) (pr.length + 1)) (pr.length + 1) (tcells (pa :: pr)) := by
                    have hbk := Blk.new (w6.alloc (.cells #[.string kx, .string dx, .bool ex, .slice xa' ksx.length xc'] 24)) (tcells (pa :: pr)) 9
                    have e1 : (w6.alloc (.cells #[.string kx, .string dx, .bool ex, .slice xa' ksx.length xc'] 24)).heap.size = w6.heap.size + 1 := by simp
                    rw [e1] at hbk
                    have := Ow.of_owns (F := fun g => w6.heap.size ≤ g) (hbk.owns (base := w6.heap.size + 1) (Nat.le_refl _) (by rw [tcells_len]; unfold maxLen; simp only [List.length_cons]; omega)) (fun g hg => by omega)
                    rw [show (tcells (pa :: pr)).length = pr.length + 1 by rw [tcells_len]; rfl] at this
                    exact this
                  have hsz6 : (w6.alloc (.cells #[.string kx, .string dx, .bool ex, .slice xa' ksx.length xc'] 24)).heap.size = w6.heap.size + 1 := by simp
                  have hs2 := Src.sl (P := Tryz.prog) (tx := 52) Tryz.underlying52 (HA7.out.ob hBs (Nat.le_refl _)) (one_tcells rest)
                  have HCS := hidd (Sl.nil _ _ : Sl (w6.alloc (.cells #[.string kx, .string dx, .bool ex, .slice xa' ksx.length xc'] 24)) (.slice none 0 0) (tcells []) [].length 1)
                  have hbo2 := hos.blk
                  rw [hsz6] at HSPL
                  obtain ⟨CS, hCS⟩ : ∃ CS, (tcells (pa :: pr)).toArray = CS := ⟨_, rfl⟩
                  obtain ⟨TP, hTP⟩ : ∃ TP, tcells (pa :: pr) = TP := ⟨_, rfl⟩
                  have HTP := hidd hTP
                  obtain ⟨TR, hTR⟩ : ∃ TR, tcells rest = TR := ⟨_, rfl⟩
                  have HTR := hidd hTR
                  rw [hCS] at HSPL hos hs2 hBs
                  rw [hTP] at hos
                  rw [hTR] at hs2
                  clear hif hHP hCS hTP hTR hpv
                  go_wp2_with fail
                  refine HHP.out.mono ?_
                  rintro e w8 ⟨rfl, rfl⟩
                  go_wp2_with fail
                  refine HSPL.out.mono ?_
                  rintro e w8 ⟨rfl, rfl⟩
                  go_wp2_with (at_builtin; refine wpList_append_ow _ rfl _ _ 52 52 rfl (fun g => w6.heap.size ≤ g) ?cF 9 i0 _ 1 16 Tryz.underlying52 hii hz0 hz1 hz2 rfl (by decide) _ _ _ rfl hos _ _ _ rfl hs2 ?c3 ?c4 ?_)
                  case cF => intro g hg; simp at hg; omega
                  case c3 => unfold maxLen; omega
                  case c4 => omega
                  intro v10 w10 ho10 hg10
                  obtain ⟨va10, vc10, rfl⟩ := ho10.shape
                  have hb10 : Below (w6.alloc (.cells #[.string kx, .string dx, .bool ex, .slice xa' ksx.length xc'] 24)).heap.size (w6.alloc (.cells #[.string kx, .string dx, .bool ex, .slice xa' ksx.length xc'] 24)) w10 := hBs.grown hg10 hBs.size (fun k hk => by simp [Value.ownBlock] at hk; omega)
                  have hlen10 : (pieces dx ++ rest).length = pr.length + 1 + rest.length := by rw [List.length_append, HPC.out]; rfl
                  have HN10 : Hid (FolI E B w t R (lk + 1) (pieces dx ++ rest) [] (.slice va10 (pr.length + 1 + rest.length) vc10) (.slice none 0 0) w10) := hidd ⟨HI7.out.below.trans (hb10.mono HI7.out.below.size), HI7.out.env.ob hb10, HI7.out.ml.ob hb10, HI7.out.ok.ob hb10, HI7.out.bx.below hb10 HI7.out.bx.lt, by omega,
                    by have := HRUN.out; rw [HIF.out] at this; exact this, GoodC.nil t, by
                      have := ho10.sl
                      rw [hlen10, show tcells (pieces dx ++ rest) = TP ++ TR by rw [← HTP.out, ← HTR.out, HPC.out]; simp [tcells]]
                      exact this, HCS.out.ob hb10 (Nat.le_refl _), by rw [hlen10]; omega, fun x hx => by
                      rcases List.mem_append.1 hx with h | h
                      · have := pieces_size h; omega
                      · exact HI7.out.tsz x (List.mem_cons_of_mem _ h)⟩
                  clear ho10 hg10 hbo2 hs2 hos hBs HCS HSPL HHP
                  go_wp2_with fail
                  go_roundw
                  case rel => exact ⟨lk + 1, pieces dx ++ rest, [], by go_num, HN10.out⟩
                  case measure => simp [slLen, intOf]; omega
            · have q1 : (kx.toList == [108, 105, 110, 107]) = false := by rw [show ([108, 105, 110, 107] : List UInt8) = kLink.toList by rw [Lib.toList_data]; rfl]; exact beq_str hl
              have HN9 : Hid (FolI E B w t R lk rest (cur ++ [n]) (.slice A2 rest.length (tcap - 1)) (.slice va5 (m + 1) vc5) (w6.alloc (.cells #[.string kx, .string dx, .bool ex, .slice xa' ksx.length xc'] 24))) :=
                hidd (HI7.out.step (Below.refl _ _) (fol_go h3 hx hl) (HG.out.add h3 hx hl) HA7.out HN7.out)
              clear hx hx0 hxo hxo6 hb6 HAO hBa hq hl
              go_wp2_with fail
              go_roundw
              case rel => exact ⟨lk, rest, cur ++ [n], rfl, HN9.out⟩
              case measure => simp [slLen, intOf]
          · have HF2 : Hid (followOf t s = .error 6) := hidd (by
              have := HI6.out.run
              rw [fol_none h3 hx] at this
              rw [HF.out, ← this])
            have HV : Hid (evc E 6 = .iface 203 (.pointer (some (E 0)))) := hidd rfl
            unfold nodeZ
            have hBa : Below w6.heap.size w6 (w6.alloc (.cells #[.string ⟨#[]⟩, .string ⟨#[]⟩, .bool false, .slice none 0 0] 24)) := (Below.refl _ _).alloc (Nat.le_refl _) _
            have hcE := (HI6.out.env.ob hBa).cell 0 (by decide)
            unfold erv at hcE
            have hB9 := HI6.out.below.trans (hBa.mono HI6.out.below.size)
            clear hx hb6 HAO hBa
            go_wp2_with fail
            go_quiet (fail)
            go_wp2_with fail
            go_ret2
            exact ⟨hB9.trans ((Below.drewN _ _ _).mono hB9.size), .inl ⟨6, HF2.out, by decide, by decide, by rw [HV.out]; rfl⟩⟩
  · have HF2 : Hid (followOf t s = .error 5) := hidd (follow_split H0.out hsp)
    have HV : Hid (evc E 5 = .iface 203 (.pointer (some (E 2)))) := hidd rfl
    rw [HV.out]
    clear hsp
    go_wp2_with fail
    go_ret2
    exact ⟨hB2, .inl ⟨5, HF2.out, by decide, by decide, by rw [HV.out]; rfl⟩⟩
end Go.Proofs.YtbadnmfmncjdjaaGreatDoor
