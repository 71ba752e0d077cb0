/- The contract of the reference's Cut at a stroke. Condition: the text is short. · The contract of the reference's SplitOf. Condition: the text is short. · The contract of the reference's FindOf; the place of a path among a right tree's items. Condition: the items are there. · The contract of the reference's GetOf. Condition: the tree is there, the text is short. -/
import Derived.Test.YtoaedkinlnkkhaaGreatDoorTxt
import Derived.Test.YtoaedkinlnkkhaaGreatDoorTrO
import Derived.Test.YtoaedkinlnkkhaaGreatDoorPaP
import Derived.Test.YtoaedkinlnkkhaaGreatDoorTrM
import Derived.Test.YtoaedkinlnkkhaaGreatDoorTrG
import Derived.Test.YtoaedkinlnkkhaaGreatDoorPaF
import Derived.Test.YtoaedkinlnkkhaaGreatDoorRf
namespace Go.Proofs.YtoaedkinlnkkhaaGreatDoor
open Go.RowKit

theorem infoTx3 : (Tryz.prog.info? 9).map (fun i => (i.zero, i.size, i.bytes)) = some (some (.string ⟨#[]⟩), 1, 16) := by kernel_rfl

/-- The texts ahead of a place, and what is still to cut. -/
def CutI (L : List UInt8) (i k : Nat) (ds : List ByteArray) : Prop :=
  i ≤ k ∧ k ≤ L.length ∧ ds.length ≤ i ∧ (∀ c ∈ (L.drop i).take (k - i), c ≠ 47) ∧ ds.map (·.data.toList) ++ cutL (L.drop i) = cutL L
theorem cutI_start (L : List UInt8) : CutI L 0 0 [] := ⟨Nat.le_refl _, Nat.zero_le _, Nat.le_refl _, by simp, by simp⟩
theorem cutI_next {L : List UInt8} {i k : Nat} {ds : List ByteArray} (h : CutI L i k ds) (hk : k < L.length) (hc : L[k] ≠ 47) : CutI L i (k + 1) ds := by
  obtain ⟨h1, h2, h3, h4, h5⟩ := h
  refine ⟨by omega, hk, h3, fun c hm => ?_, h5⟩
  rw [show k + 1 - i = (k - i) + 1 by omega, List.take_succ_eq_append_getElem (by rw [List.length_drop]; omega)] at hm
  rcases List.mem_append.1 hm with h | h
  · exact h4 c h
  · simp only [List.mem_cons, List.not_mem_nil, or_false] at h
    subst h
    rw [List.getElem_drop]
    simpa [show i + (k - i) = k by omega] using hc
theorem cutI_piece {L : List UInt8} {i k : Nat} {ds : List ByteArray} (h : CutI L i k ds) (hk : k < L.length) (hc : L[k] = 47) {p : ByteArray} (hp : p.data.toList = (L.drop i).take (k - i)) : CutI L (k + 1) (k + 1) (ds ++ [p]) := by
  obtain ⟨h1, h2, h3, h4, h5⟩ := h
  refine ⟨Nat.le_refl _, hk, by rw [List.length_append]; simp; omega, by simp, ?_⟩
  have e1 : L.drop i = (L.drop i).take (k - i) ++ 47 :: L.drop (k + 1) := by
    conv => lhs; rw [← List.take_append_drop (k - i) (L.drop i)]
    rw [List.drop_drop, show i + (k - i) = k by omega, List.drop_eq_getElem_cons hk, hc]
  have e2 := cutL_plain _ (47 :: L.drop (k + 1)) h4
  rw [← e1, cutL_stroke] at e2
  rw [← h5, e2, ← hp]
  simp
theorem cutI_end {L : List UInt8} {i k : Nat} {ds : List ByteArray} (h : CutI L i k ds) (hk : ¬ k < L.length) {p : ByteArray} (hp : p.data.toList = L.drop i) : (ds ++ [p]).map (·.data.toList) = cutL L := by
  obtain ⟨h1, h2, h3, h4, h5⟩ := h
  have e0 : (L.drop i).take (k - i) = L.drop i := List.take_of_length_le (by rw [List.length_drop]; omega)
  rw [e0] at h4
  have e2 := cutL_plain _ [] h4
  rw [List.append_nil] at e2
  rw [← h5, e2]
  simp [cutL, hp]
theorem extract_data (s : ByteArray) (i k : Nat) : (s.extract i k).data.toList = (s.data.toList.drop i).take (k - i) := by
  rw [ByteArray.data_extract]; simp

set_option maxRecDepth 100000 in
set_option maxHeartbeats 4000000 in
theorem cut_any (s : ByteArray) (w : World) (hs : s.size ≤ 1000000) :
    Calls Tryz.prog 101 #[.string s, .int .u8 47] w fun e w' => ∃ v, e = .returned v ∧ Ow (fun g => w.heap.size ≤ g) w' 9 1 v (pieces s).length (tcells (pieces s)) ∧ Below w.heap.size w w' := by
  obtain ⟨i0, hii, hz0, hz1, hz2⟩ := info_parts infoTx3
  have hll : s.data.toList.length = s.size := by simp
  obtain ⟨L, hL⟩ : ∃ L, s.data.toList = L := ⟨_, rfl⟩
  have HL := hidd hL
  have HLS := hidd hL
  go_enter Tryz.func101, Tryz.ntmps101
  go_wp2_with fail
  go_loopw [5, 6, 7] (fun v6 v7 v8 wr => ∃ (i k : Nat) (ds : List ByteArray), v7 = .int .i64 (i : Int) ∧ v8 = .int .i64 (k : Int) ∧ Hid (CutI L i k ds) ∧ Ow (fun g => w.heap.size ≤ g) wr 9 1 v6 ds.length (tcells ds) ∧ Below w.heap.size w wr) (fun _ _ v8 _ => s.size - (intOf v8).toNat)
  case atStart => exact ⟨0, 0, [], rfl, rfl, hidd (cutI_start L), Ow.nil _ _ _ _, Below.refl _ _⟩
  case round =>
    obtain ⟨i, k, ds, rfl, rfl, HI, ho, hbel⟩ := hrel
    obtain ⟨hi1, hi2, hi3, -, -⟩ := HI.out
    rw [hL] at hll
    obtain ⟨va, vc, rfl⟩ := ho.shape
    obtain ⟨nS, hnS⟩ : ∃ n, ds.length = n := ⟨_, rfl⟩
    have HNS := hidd hnS
    rw [hnS] at ho hi3 ⊢
    have hbo := ho.blk
    by_cases hlt : k < s.size
    · have p1 : (0 : Int) ≤ (k : Int) := by omega
      have p2 : (k : Int) < (s.size : Int) := by omega
      have p3 : (i : Int) ≤ (k : Int) := by omega
      have p4 : (0 : Int) ≤ (i : Int) := by omega
      have p5 : (k : Int) ≤ (s.size : Int) := by omega
      have hg : L[k]'(by omega) = s[k] := by subst hL; rfl
      obtain ⟨c, hcc⟩ : ∃ c : UInt8, s[k] = c := ⟨_, rfl⟩
      rw [hcc] at hg
      have HG := hidd hg
      clear hg
      by_cases hc : c = 47
      · have q1 : ((c.toNat : Int) == 47) = true := by subst hc; rfl
        obtain ⟨P, hP⟩ : ∃ P, s.extract i k = P := ⟨_, rfl⟩
        have HP : Hid (P.data.toList = (L.drop i).take (k - i)) := hidd (by rw [← hP, extract_data, HL.out])
        have HN := hidd (cutI_piece HI.out (by omega) (by rw [HG.out]; exact hc) HP.out)
        have hs1 := Src.new (P := Tryz.prog) (size := 1) (tx := 137) Tryz.underlying137 wr wr.heap.size rfl [.string P] 9 rfl (by intro u hu; simp at hu; subst hu; rfl) 1
        clear hL hc HP HI HL
        go_wp2_with (first | (at_builtin; refine wpList_append_ow _ rfl _ _ 137 137 rfl (fun g => w.heap.size ≤ g) ?cF 9 i0 _ 1 16 Tryz.underlying137 hii hz0 hz1 hz2 rfl (by decide) _ _ _ rfl (ho.alloc _) _ _ _ rfl hs1 ?c3 ?c4 ?_) | rw [hP])
        case cF => intro g hg; simp at hg; have := hbel.size; omega
        case c3 => unfold maxLen; omega
        case c4 => omega
        intro v3 w4 ho4 hg4
        have hb4 : Below w.heap.size w w4 := (((Fr.refl (fun g => w.heap.size ≤ g) w).trans (Fr.of_below hbel (fun i _ h => h))).alloc (.cells #[.string P] 9)).grown hg4 (fun k hk => .inl (hbo k hk).1) |>.below (Nat.le_refl _) (fun _ h => h)
        have HN4 : Hid (Ow (fun g => w.heap.size ≤ g) w4 9 1 v3 (ds ++ [P]).length (tcells (ds ++ [P]))) := hidd (by
          rw [List.length_append, HNS.out, show tcells (ds ++ [P]) = tcells ds ++ [.string P] by simp [tcells]]
          exact ho4)
        clear hg4 ho4 hs1 hbel ho hbo
        go_wp2_with fail
        go_roundw
        case rel => exact ⟨k + 1, k + 1, ds ++ [P], by go_num, by go_num, HN, HN4.out, hb4⟩
        case measure => simp [intOf]; omega
      · have q1 : ((c.toNat : Int) == 47) = false := by
          have : c.toNat ≠ 47 := fun e => hc (UInt8.toNat_inj.1 (by simpa using e))
          simp; omega
        have HN := hidd (cutI_next HI.out (by omega) (by rw [HG.out]; exact hc))
        clear hbo hL hc
        go_wp2_with fail
        go_roundw
        case rel => exact ⟨i, k + 1, ds, rfl, by go_num, HN, by rw [HNS.out]; exact ho, hbel⟩
        case measure => simp [intOf]; omega
    · have hki : k = s.size := by have := HI.out.2.1; omega
      have p3 : (i : Int) ≤ (s.size : Int) := by omega
      have p4 : (0 : Int) ≤ (i : Int) := by omega
      obtain ⟨P, hP⟩ : ∃ P, s.extract i s.size = P := ⟨_, rfl⟩
      have HP : Hid (P.data.toList = L.drop i) := hidd (by rw [← hP, extract_data, HL.out, List.take_of_length_le (by rw [List.length_drop]; omega)])
      have HE := hidd (cutI_end HI.out (by omega) HP.out)
      have hs1 := Src.new (P := Tryz.prog) (size := 1) (tx := 137) Tryz.underlying137 wr wr.heap.size rfl [.string P] 9 rfl (by intro u hu; simp at hu; subst hu; rfl) 1
      subst hki
      clear hL hll HL HP HI
      go_wp2_with (first | (at_builtin; refine wpList_append_ow _ rfl _ _ 137 137 rfl (fun g => w.heap.size ≤ g) ?cF 9 i0 _ 1 16 Tryz.underlying137 hii hz0 hz1 hz2 rfl (by decide) _ _ _ rfl (ho.alloc _) _ _ _ rfl hs1 ?c3 ?c4 ?_) | rw [hP])
      case cF => intro g hg; simp at hg; have := hbel.size; omega
      case c3 => unfold maxLen; omega
      case c4 => omega
      intro v3 w4 ho4 hg4
      have hb4 : Below w.heap.size w w4 := (((Fr.refl (fun g => w.heap.size ≤ g) w).trans (Fr.of_below hbel (fun i _ h => h))).alloc (.cells #[.string P] 9)).grown hg4 (fun k hk => .inl (hbo k hk).1) |>.below (Nat.le_refl _) (fun _ h => h)
      have HPC : Hid (ds ++ [P] = pieces s) := hidd (ba_map_inj (by rw [HE.out, pieces_map, HLS.out]))
      have HN4 : Hid (Ow (fun g => w.heap.size ≤ g) w4 9 1 v3 (pieces s).length (tcells (pieces s))) := hidd (by
        rw [← HPC.out, List.length_append, HNS.out, show tcells (ds ++ [P]) = tcells ds ++ [.string P] by simp [tcells]]
        exact ho4)
      clear hg4 ho4 hs1 hbel ho HE HPC
      go_wp2_with fail
      go_ret
      exact ⟨_, rfl, HN4.out, hb4⟩
end Go.Proofs.YtoaedkinlnkkhaaGreatDoor

namespace Go.Proofs.YtoaedkinlnkkhaaGreatDoor
open Go.RowKit

theorem sl_tail2 {w : World} {b off len cap : Nat} {x : ByteArray} {r : List ByteArray} (h : Sl w (.slice (some ⟨b, off, none⟩) len cap) (tcells (x :: r)) (x :: r).length 1) :
    Sl w (.slice (if cap = 1 then some (⟨b, off, none⟩ : Addr) else some ⟨b, off + 1, none⟩) r.length (cap - 1)) (tcells r) r.length 1 := by
  obtain ⟨a', cap', he, h1, h2, h2', h3⟩ := h
  simp only [Value.slice.injEq] at he
  obtain ⟨rfl, rfl, rfl⟩ := he
  simp only [List.length_cons] at h2
  refine ⟨_, _, rfl, by rw [tcells_len, Nat.mul_one], by omega, by omega, ?_⟩
  by_cases e : cap = 1
  · exact .inl (by omega)
  · rw [if_neg e]
    rcases h3 with h3 | ⟨b', off', e, hb, hc⟩
    · simp at h3
    · simp only [Option.some.injEq, Addr.mk.injEq] at e
      obtain ⟨rfl, rfl, -⟩ := e
      refine .inr ⟨b, off + 1, rfl, hb, fun j hj => ?_⟩
      have := hc (j + 1) (by simp [tcells] at hj ⊢; omega)
      rw [show off + 1 + j = off + (j + 1) by omega, this]
      rfl
/-- What SplitOf gives. -/
def RsP (s : ByteArray) (w : World) (e : Ending) (w' : World) : Prop :=
  Below w.heap.size w w' ∧ ((∃ l v, splitOf s = some l ∧ e = .returned (.tuple #[v, .int .i64 0]) ∧ Sl w' v (tcells l) l.length 1) ∨ (splitOf s = none ∧ e = .returned (.tuple #[.slice none 0 0, .int .i64 5])))
theorem all_split {r : List ByteArray} (h : r.all isName = false) : ∃ i, ∃ h : i < r.length, isName r[i] = false ∧ ∀ j (hj : j < i), isName (r[j]'(by omega)) = true := by
  induction r with
  | nil => simp at h
  | cons a r ih =>
    by_cases ha : isName a = true
    · rw [List.all_cons, ha, Bool.true_and] at h
      obtain ⟨i, hi, h1, h2⟩ := ih h
      refine ⟨i + 1, by simpa using hi, h1, fun j hj => ?_⟩
      cases j with
      | zero => exact ha
      | succ j => exact h2 j (by omega)
    · exact ⟨0, by simp, by simpa using ha, fun j hj => by omega⟩

set_option maxRecDepth 100000 in
set_option maxHeartbeats 4000000 in
theorem rsplit_any (s : ByteArray) (w : World) (hs : s.size ≤ 1000000) : Calls Tryz.prog 79 #[.string s] w (RsP s w) := by
  by_cases h0 : s.data.toList = [47]
  · have HV := hidd (splitOf_stroke h0)
    have q0 : (s.toList == [47]) = true := by rw [Lib.toList_data, h0]; rfl
    clear h0
    go_enter Tryz.func79, Tryz.ntmps79
    go_wp2_with fail
    go_ret2
    exact ⟨Below.refl _ _, .inl ⟨[], _, HV.out, rfl, Sl.empty _ none 0 1 (by unfold maxLen; omega)⟩⟩
  · have q0 : (s.toList == [47]) = false := by
      rw [Lib.toList_data]
      cases hq : (s.data.toList == [47]) with
      | false => rfl
      | true => exact absurd (by simpa using hq) h0
    cases hp : pieces s with
    | nil => exact absurd hp (pieces_ne s)
    | cons a r =>
      have HP := hidd hp
      have HSP := hidd (splitOf_pieces h0 hp)
      have HC := hidd (cut_any s w hs)
      rw [hp] at HC
      clear h0 hp
      go_enter Tryz.func79, Tryz.ntmps79
      go_wp2_with fail
      refine HC.out.mono ?_
      rintro e w2 ⟨v, rfl, ho, hb2⟩
      obtain ⟨va, vc, rfl⟩ := ho.shape
      have hsl := ho.sl
      obtain ⟨b, off, rfl, hb, hc, hcell0⟩ := hsl.at1 (i := 0) (by simp)
      have hcell : w2.cell? ⟨b, off, none⟩ = some (.string a) := hcell0
      clear hcell0 hc
      have hsz : ((a :: r).length : Int) = (r.length : Int) + 1 := by simp
      by_cases hr1 : r.length = 0
      · have HN : Hid (splitOf s = none) := hidd (by rw [HSP.out, if_neg (fun h => by omega)])
        obtain rfl : r = [] := List.eq_nil_of_length_eq_zero hr1
        clear HC hsl ho hr1
        go_wp2_with fail
        go_ret2
        exact ⟨hb2, .inr ⟨HN.out, rfl⟩⟩
      · have e2 : decide ((r.length : Int) + 1 < 2) = false := decide_eq_false (by omega)
        by_cases ha : a.data.toList = []
        · have q1 : (a.toList == []) = true := by rw [Lib.toList_data, ha]; rfl
          by_cases hr9 : r.length ≤ 8
          · have e3 : decide ((9 : Int) < (r.length : Int) + 1) = false := decide_eq_false (by omega)
            have p9 : (1 : Int) ≤ (r.length : Int) + 1 := by omega
            have HTL := hidd (sl_tail2 hsl)
            have HSP2 : Hid (splitOf s = if r.all isName = true then some r else none) := hidd (by
              rw [HSP.out]
              by_cases hq : r.all isName = true
              · rw [if_pos ⟨ha, by omega, hr9, hq⟩, if_pos hq]
              · rw [if_neg (fun h => hq h.2.2.2), if_neg hq])
            have HSZ : Hid (∀ i (h : i < r.length), r[i].size ≤ 1000000) := hidd (fun i h => by
              have hm : r[i] ∈ pieces s := by rw [HP.out]; exact List.mem_cons_of_mem _ (List.getElem_mem h)
              have := pieces_size hm
              omega)
            clear HC ho HSP
            go_wp2_with fail
            go_loopw [5, 6] (fun j _ wr => ∃ k : Nat, k ≤ r.length ∧ j = .int .i64 ((k : Int) + 1) ∧ Hid (∀ i (h : i < r.length), i < k → isName r[i] = true) ∧ wr = w2) (fun j _ _ => r.length + 1 - (intOf j).toNat)
            case atStart => exact ⟨0, Nat.zero_le _, rfl, hidd (fun i h hi => by omega), rfl⟩
            case round =>
              obtain ⟨k, hk, rfl, HN, rfl⟩ := hrel
              by_cases hlt : k < r.length
              · obtain ⟨b', o', he, -, hc', hck⟩ := hsl.at1 (i := k + 1) (by simp; omega)
                simp only [Option.some.injEq, Addr.mk.injEq] at he
                obtain ⟨rfl, rfl, -⟩ := he
                rw [show (tcells (a :: r))[k + 1] = .string r[k] by simp [tcells]] at hck
                have p1 : (0 : Int) ≤ (k : Int) + 1 := by omega
                have p2 : (k : Int) + 1 < (r.length : Int) + 1 := by omega
                have p3 : ((k : Int) + 1).toNat = k + 1 := by omega
                have hz := HSZ.out k hlt
                obtain ⟨u, hu⟩ : ∃ u, r[k] = u := ⟨_, rfl⟩
                have HU := hidd hu
                rw [hu] at hck hz
                have HIN := hidd (isName_any u wr (by omega))
                clear hc' hu hcell
                cases hq : isName u with
                | true =>
                  rw [hq] at HIN
                  go_wp2_with fail
                  refine HIN.out.mono ?_
                  rintro e w3 ⟨rfl, rfl⟩
                  go_wp2_with fail
                  go_roundw
                  case rel => exact ⟨k + 1, hlt, by go_num, hidd (fun i h hi => by
                    by_cases e : i = k
                    · subst e; rw [HU.out]; exact hq
                    · exact HN.out i h (by omega)), trivial⟩
                  case measure => simp [intOf]; omega
                | false =>
                  rw [hq] at HIN
                  have HNO : Hid (splitOf s = none) := hidd (by rw [HSP2.out, if_neg (fun h => by have := List.all_eq_true.1 h r[k] (List.getElem_mem hlt); rw [HU.out, hq] at this; cases this)])
                  go_wp2_with fail
                  refine HIN.out.mono ?_
                  rintro e w3 ⟨rfl, rfl⟩
                  go_wp2_with fail
                  go_ret2
                  exact ⟨hb2, .inr ⟨HNO.out, rfl⟩⟩
              · have HYES : Hid (splitOf s = some r) := hidd (by rw [HSP2.out, if_pos (List.all_eq_true.2 (fun x hx => by obtain ⟨i, hi, rfl⟩ := List.getElem_of_mem hx; exact HN.out i hi (by omega)))])
                have q5 : ¬ ((k : Int) + 1 < (r.length : Int) + 1) := by omega
                obtain ⟨A, hA⟩ : ∃ A, (if vc = 1 then some (⟨b, off, none⟩ : Addr) else some ⟨b, off + 1, none⟩) = A := ⟨_, rfl⟩
                rw [hA] at HTL
                clear hcell
                go_wp2_with fail
                go_ret2
                exact ⟨hb2, .inl ⟨r, _, HYES.out, rfl, HTL.out⟩⟩
          · have HN : Hid (splitOf s = none) := hidd (by rw [HSP.out, if_neg (fun h => hr9 h.2.2.1)])
            have e3 : decide ((9 : Int) < (r.length : Int) + 1) = true := decide_eq_true (by omega)
            clear HC hsl ho hr1 hr9
            go_wp2_with fail
            go_ret2
            exact ⟨hb2, .inr ⟨HN.out, rfl⟩⟩
        · have HN : Hid (splitOf s = none) := hidd (by rw [HSP.out, if_neg (fun h => ha h.1)])
          have q1 : (a.toList == []) = false := by
            rw [Lib.toList_data]
            cases hq : (a.data.toList == []) with
            | false => rfl
            | true => exact absurd (by simpa using hq) ha
          clear HC hsl ho hr1 ha
          go_wp2_with fail
          go_ret2
          exact ⟨hb2, .inr ⟨HN.out, rfl⟩⟩
end Go.Proofs.YtoaedkinlnkkhaaGreatDoor

namespace Go.Proofs.YtoaedkinlnkkhaaGreatDoor
open Go.RowKit
section
variable {α : Type}
theorem jt_stroke (l : List ByteArray) : Stroke (jt l) := by
  cases l with
  | nil => exact .inl rfl
  | cons n r => exact .inr ⟨n.data.toList ++ joined r, rfl⟩
theorem items_R (t : Tr α) : itemsOf t = (preR t).map fun x => (⟨pathOf (jt x.1), x.1.length, x.2⟩ : It α) := by
  unfold itemsOf
  rw [pre_R, List.map_map]
  apply List.map_congr_left
  intro x _
  show It.fix _ = _
  unfold It.fix
  simp only
  rw [show (⟨#[]⟩ : ByteArray) ++ jt x.1 = jt x.1 from ba_inj (by simp), ← path_fix (jt_stroke _), Nat.zero_add]
theorem path_of_split {s : ByteArray} {l : List ByteArray} (h : splitOf s = some l) : pathOf (jt l) = s := by
  rw [path_fix (jt_stroke l)]
  rcases splitOf_join h with ⟨h1, rfl⟩ | ⟨h1, h2, h3⟩
  · rw [jt_nil, fixP_nil (by rw [Lib.toList_data]; rfl)]
    exact ba_inj (by rw [h1])
  · have : jt l = s := ba_inj h3
    rw [this, fixP_cons]
    rw [Lib.toList_data, ← h3]
    cases l with
    | nil => exact absurd rfl h2
    | cons n r => rfl
theorem item_at {t : Tr α} (h : treeE t = 0) {s : ByteArray} {l : List ByteArray} (hs : splitOf s = some l) {x : It α} (hx : x ∈ itemsOf t) (hp : x.path = s) : atT t l = some x.n := by
  rw [items_R] at hx
  obtain ⟨y, hy, rfl⟩ := List.mem_map.1 hx
  obtain ⟨h1, h2, -⟩ := preR_at t.sz t (Nat.le_refl _) h y hy
  have h3 := names_joined h2 (preR_deep h y hy)
  simp only at hp
  rw [hp, hs] at h3
  rw [Option.some.inj h3]
  exact h1
theorem item_none {t : Tr α} {s : ByteArray} {l : List ByteArray} (hs : splitOf s = some l) (hx : ∀ x ∈ itemsOf t, x.path ≠ s) : atT t l = none := by
  cases ha : atT t l with
  | none => rfl
  | some y =>
    refine absurd (path_of_split hs) (hx ⟨pathOf (jt l), l.length, y⟩ ?_)
    rw [items_R]
    exact List.mem_map.2 ⟨(l, y), atT_mem ha, rfl⟩
end
/-- What FindOf gives. -/
def FdP (L : List (It Value)) (s : ByteArray) (w : World) (e : Ending) (w' : World) : Prop :=
  w = w' ∧ ((∃ i, ∃ h : i < L.length, L[i].path = s ∧ e = .returned (.int .i64 (i : Int))) ∨ ((∀ x ∈ L, x.path ≠ s) ∧ e = .returned (.int .i64 (-1))))

set_option maxRecDepth 100000 in
theorem find_any (L : List (It Value)) (a : Option Addr) (cap : Nat) (s : ByteArray) (w : World) (hs : Sl w (.slice a L.length cap) (itcells L) L.length 6) :
    Calls Tryz.prog 81 #[.slice a L.length cap, .string s] w (FdP L s w) := by
  have hle := hs.le
  have HS := hidd hs
  clear hs
  go_enter Tryz.func81, Tryz.ntmps81
  go_wp2_with fail
  go_loop [5] (fun j => ∃ i : Nat, i ≤ L.length ∧ j = .int .i64 (i : Int) ∧ Hid (∀ k (h : k < L.length), k < i → L[k].path ≠ s)) (fun j => L.length - (intOf j).toNat)
  case atStart => exact ⟨0, Nat.zero_le _, rfl, hidd (fun k h hk => by omega)⟩
  case round =>
    obtain ⟨i, hi, rfl, HN⟩ := hrel
    by_cases hlt : i < L.length
    · obtain ⟨b, off, rfl, hb, c0, -⟩ := sl_at6 HS.out hlt
      have p1 : (0 : Int) ≤ (i : Int) := by omega
      have p2 : (i : Int) < (L.length : Int) := by omega
      obtain ⟨u, hu⟩ : ∃ u, L[i].path = u := ⟨_, rfl⟩
      have HU := hidd hu
      rw [hu] at c0
      clear hu
      by_cases hq : u = s
      · have q1 : (u.toList == s.toList) = true := by rw [hq]; simp
        have HQ := hidd hq
        clear hq
        go_wp2_with fail
        go_ret
        exact ⟨rfl, .inl ⟨i, hlt, by rw [HU.out, HQ.out], rfl⟩⟩
      · have q1 : (u.toList == s.toList) = false := beq_str hq
        have HN2 : Hid (∀ k (h : k < L.length), k < i + 1 → L[k].path ≠ s) := hidd (fun k h hk => by
          by_cases e : k = i
          · subst e; rw [HU.out]; exact hq
          · exact HN.out k h (by omega))
        clear hq
        go_wp2_with fail
        go_round
        case rel => exact ⟨i + 1, hlt, by go_num, HN2.out⟩
        case measure => simp [intOf]; omega
    · have HE : Hid (∀ x ∈ L, x.path ≠ s) := hidd (fun x hx => by
        obtain ⟨k, hk, rfl⟩ := List.getElem_of_mem hx
        exact HN.out k hk (by omega))
      go_wp2_with fail
      go_ret
      exact ⟨rfl, .inr ⟨HE.out, rfl⟩⟩
end Go.Proofs.YtoaedkinlnkkhaaGreatDoor

namespace Go.Proofs.YtoaedkinlnkkhaaGreatDoor
open Go.RowKit

/-- What GetOf gives. -/
def RgP (t : Lt) (s : ByteArray) (w : World) (e : Ending) (w' : World) : Prop :=
  Below w.heap.size w w' ∧ ((∃ c : Nat, getOf t s = .error c ∧ c ≠ 0 ∧ c ≤ 10 ∧ e = .returned (.tuple #[nodeZ, .int .i64 (c : Int)])) ∨
    (∃ x : Lt, getOf t s = .ok x ∧ treeE x = 0 ∧ e = .returned (.tuple #[nval x, .int .i64 0]) ∧ x.Ok w'))

/-- What stands while GetOf goes. -/
structure GoK (w : World) (t : Lt) (W : World) : Prop where
  bt : Blk W w.heap.size (ncells t) 24
  bz : Blk W (w.heap.size + 1) [.string ⟨#[]⟩, .string ⟨#[]⟩, .bool false, .slice none 0 0] 24
  ot : t.Ok W
  below : Below w.heap.size w W
section
variable {w : World} {t : Lt} {W W' : World}
theorem GoK.later (h : GoK w t W) (hb : Below W.heap.size W W') : GoK w t W' :=
  ⟨h.bt.below hb h.bt.lt, h.bz.below hb h.bz.lt, h.ot.ob hb, h.below.trans (hb.mono h.below.size)⟩
theorem GoK.c (h : GoK w t W) : W.cell? ⟨w.heap.size, 0, none⟩ = some (.string t.kind) ∧ W.cell? ⟨w.heap.size, 1, none⟩ = some (.string t.data) ∧ W.cell? ⟨w.heap.size, 2, none⟩ = some (.bool t.exec) ∧ W.cell? ⟨w.heap.size, 3, none⟩ = some t.v :=
  ⟨h.bt.cell (i := 0) rfl, h.bt.cell (i := 1) rfl, h.bt.cell (i := 2) rfl, h.bt.cell (i := 3) rfl⟩
theorem GoK.start (w : World) (t : Lt) (a : Option Addr) (cap : Nat) (hv : t.v = .slice a t.kids.length cap) (ht : t.Ok w) :
    GoK w t ((w.alloc (.cells #[.string t.kind, .string t.data, .bool t.exec, .slice a t.kids.length cap] 24)).alloc (.cells #[.string ⟨#[]⟩, .string ⟨#[]⟩, .bool false, .slice none 0 0] 24)) := by
  have hB0 : Below w.heap.size w ((w.alloc (.cells #[.string t.kind, .string t.data, .bool t.exec, .slice a t.kids.length cap] 24)).alloc (.cells #[.string ⟨#[]⟩, .string ⟨#[]⟩, .bool false, .slice none 0 0] 24)) := ((Below.refl _ _).alloc (Nat.le_refl _) _).alloc (by simp) _
  refine ⟨?_, ?_, ht.ob hB0, hB0⟩
  · unfold ncells; rw [hv]; exact (Blk.new w _ _).alloc _
  · have := Blk.new (w.alloc (.cells #[.string t.kind, .string t.data, .bool t.exec, .slice a t.kids.length cap] 24)) [.string ⟨#[]⟩, .string ⟨#[]⟩, .bool false, .slice none 0 0] 24
    simpa using this
/-- The result's block, written over. -/
theorem GoK.done (h : GoK w t W) (c0 c1 c2 c3 : Value) : Below w.heap.size w ((((W.setCell ⟨w.heap.size + 1, 0, none⟩ c0).setCell ⟨w.heap.size + 1, 1, none⟩ c1).setCell ⟨w.heap.size + 1, 2, none⟩ c2).setCell ⟨w.heap.size + 1, 3, none⟩ c3) ∧
    Blk ((((W.setCell ⟨w.heap.size + 1, 0, none⟩ c0).setCell ⟨w.heap.size + 1, 1, none⟩ c1).setCell ⟨w.heap.size + 1, 2, none⟩ c2).setCell ⟨w.heap.size + 1, 3, none⟩ c3) (w.heap.size + 1) [c0, c1, c2, c3] 24 ∧ Fr (fun b => b = w.heap.size + 1) W ((((W.setCell ⟨w.heap.size + 1, 0, none⟩ c0).setCell ⟨w.heap.size + 1, 1, none⟩ c1).setCell ⟨w.heap.size + 1, 2, none⟩ c2).setCell ⟨w.heap.size + 1, 3, none⟩ c3) := by
  have hF := (Fr.refl (fun b => b = w.heap.size + 1) W).four (p := w.heap.size + 1) (.inl rfl) c0 c1 c2 c3
  exact ⟨h.below.trans (hF.below h.below.size (fun b e => by omega)), h.bz.four, hF⟩
end

set_option maxRecDepth 100000 in
set_option maxHeartbeats 8000000 in
theorem rget_any (t : Lt) (s : ByteArray) (w : World) (ht : t.Ok w) (hs : s.size ≤ 1000000) : Calls Tryz.prog 53 #[nval t, .string s] w (RgP t s w) := by
  obtain ⟨a, cap, hv⟩ := ht.shape
  have hK := GoK.start w t a cap hv ht
  have HTE := hidd (fun W (h : GoK w t W) => treeErr_any t W h.ot)
  have HIT := hidd (fun W (h : GoK w t W) (h0 : treeE t = 0) => items_any t W h.ot h0)
  have HDN := hidd (fun W (h : GoK w t W) c0 c1 c2 c3 => h.done c0 c1 c2 c3)
  have HAT := hidd (fun l x (h0 : treeE t = 0) (e : atT t l = some x) => (⟨atT_right h0 e, atT_ok ht e⟩ : treeE x = 0 ∧ x.Ok w))
  unfold nval at HTE HIT ⊢
  obtain ⟨x0, x1, x2, x3⟩ := hK.c
  rw [hv] at HTE HIT x3 ⊢
  have HK := hidd hK
  have hbd : treeE t ≤ 10 := scan_bd _ 0
  obtain ⟨c, hc⟩ : ∃ c, treeE t = c := ⟨_, rfl⟩
  rw [hc] at hbd
  have HC := hidd hc
  have HV := hidd hv
  clear hK ht hc hv
  go_enter Tryz.func53, Tryz.ntmps53
  go_wp2_with fail
  refine (HTE.out _ HK.out).mono ?_
  rintro e w2 ⟨rfl, hb2⟩
  have hK2 := HK.out.later hb2
  rw [HC.out]
  clear x0 x1 x2 x3 hb2
  by_cases h0 : c = 0
  · subst h0
    have HSP := hidd (rsplit_any s w2 hs)
    have HK2 := hidd hK2
    clear hK2 hbd
    go_wp2_with fail
    refine HSP.out.mono ?_
    rintro e w3 ⟨hb3, hr⟩
    have hK3 := HK2.out.later hb3
    rcases hr with ⟨l, v, hsp, rfl, hsl⟩ | ⟨hsp, rfl⟩
    · obtain ⟨x0, x1, x2, x3⟩ := hK3.c
      rw [HV.out] at x3
      have HP := hidd hsp
      have HK3 := hidd hK3
      clear hsp hsl hb3 hK3
      go_wp2_with fail
      refine (HIT.out _ HK3.out HC.out).mono ?_
      rintro e w4 ⟨v4, rfl, ho4, hb4⟩
      obtain ⟨a4, c4, rfl⟩ := ho4.shape
      have hK4 := HK3.out.later hb4
      have HF := hidd (find_any (itemsOf t) a4 c4 s w4 ho4.sl)
      have HSL := hidd ho4.sl
      have HGE := hidd (fun k hk => (ho4.blk k hk).1)
      have hz3 := HK3.out.bz.lt
      have hle := ho4.sl.le
      have HIL := hidd (fun x (hx : x ∈ itemsOf t) (hp : x.path = s) => item_at HC.out HP.out hx hp)
      have HIN := hidd (fun (hx : ∀ x ∈ itemsOf t, x.path ≠ s) => item_none HP.out hx)
      obtain ⟨L, hL⟩ : ∃ L, itemsOf t = L := ⟨_, rfl⟩
      rw [hL] at HF HSL hle HIL HIN ⊢
      have HK4 := hidd hK4
      clear x0 x1 x2 x3 ho4 hb4 hL hK4
      go_wp2_with fail
      refine HF.out.mono ?_
      rintro e w5 ⟨rfl, hr⟩
      have z := HK4.out.bz
      rcases hr with ⟨i, hi, hp, rfl⟩ | ⟨hn, rfl⟩
      · have hat := HIL.out _ (List.getElem_mem hi) hp
        have hxx := HAT.out _ _ HC.out hat
        obtain ⟨b, off, rfl, hb, c0, c1, c2, c3, c4', c5⟩ := sl_at6 HSL.out hi
        have HG := hidd (getOf_ok HC.out HP.out hat)
        obtain ⟨x, hx⟩ : ∃ x, L[i].n = x := ⟨_, rfl⟩
        rw [hx] at c2 c3 c4' c5 hxx HG
        obtain ⟨kx, dx, ex, vx, ksx⟩ := x
        obtain ⟨xa, xc, hxv⟩ := hxx.2.shape
        simp only [Tr.kind, Tr.data, Tr.exec, Tr.v, Tr.kids] at c2 c3 c4' c5 hxv
        subst hxv
        obtain ⟨hBd, hBk, hBf⟩ := HDN.out _ HK4.out (.string kx) (.string dx) (.bool ex) (.slice xa ksx.length xc)
        have HXX := hidd hxx
        have p1 : (0 : Int) ≤ (i : Int) := by omega
        have p2 : (i : Int) < (L.length : Int) := by omega
        have p3 : ¬ ((i : Int) < 0) := by omega
        have f0 := z.frozen 0
        have f1 := z.frozen 1
        have f2 := z.frozen 2
        have f3 := z.frozen 3
        have y0 := z.cell (i := 0) rfl
        have y1 := z.cell (i := 1) rfl
        have y2 := z.cell (i := 2) rfl
        have y3 := z.cell (i := 3) rfl
        have r0 := hBk.cell (i := 0) rfl
        have r1 := hBk.cell (i := 1) rfl
        have r2 := hBk.cell (i := 2) rfl
        have r3 := hBk.cell (i := 3) rfl
        have HBD := hidd hBd
        have HBF := hidd hBf
        have hne : ¬ (b = w.heap.size + 1) := by have := HGE.out b rfl; omega
        clear hat hxx hx hBd hBk hBf hp c0 c1
        go_wp2_with fail
        refine bodyPost_ret (v := .tuple #[.agg #[.string kx, .string dx, .bool ex, .slice xa ksx.length xc], .int .i64 0]) ?_ rfl ?_
        · rw [results_cell_tmp rfl]
          go_simp
        · exact ⟨HBD.out, .inr ⟨_, HG.out, HXX.out.1, rfl, HXX.out.2.ob HBD.out⟩⟩
      · have hn' := HIN.out hn
        have HG := hidd (getOf_none HC.out HP.out hn')
        clear hn hn' z
        have z := HK4.out.bz
        obtain ⟨hBd, hBk, -⟩ := HDN.out _ HK4.out (.string ⟨#[]⟩) (.string ⟨#[]⟩) (.bool false) (.slice none 0 0)
        have f0 := z.frozen 0
        have f1 := z.frozen 1
        have f2 := z.frozen 2
        have f3 := z.frozen 3
        have y0 := z.cell (i := 0) rfl
        have y1 := z.cell (i := 1) rfl
        have y2 := z.cell (i := 2) rfl
        have y3 := z.cell (i := 3) rfl
        have r0 := hBk.cell (i := 0) rfl
        have r1 := hBk.cell (i := 1) rfl
        have r2 := hBk.cell (i := 2) rfl
        have r3 := hBk.cell (i := 3) rfl
        have HBD := hidd hBd
        clear hBd hBk z
        go_wp2_with fail
        refine bodyPost_ret (v := .tuple #[nodeZ, .int .i64 6]) ?_ rfl ?_
        · unfold nodeZ
          rw [results_cell_tmp rfl]
          go_simp
        · exact ⟨HBD.out, .inl ⟨6, HG.out, by decide, by decide, rfl⟩⟩
    · have HG := hidd (getOf_split HC.out hsp)
      have HK3 := hidd hK3
      clear hsp hb3 hK3
      have z := HK3.out.bz
      obtain ⟨hBd, hBk, -⟩ := HDN.out _ HK3.out (.string ⟨#[]⟩) (.string ⟨#[]⟩) (.bool false) (.slice none 0 0)
      have f0 := z.frozen 0
      have f1 := z.frozen 1
      have f2 := z.frozen 2
      have f3 := z.frozen 3
      have y0 := z.cell (i := 0) rfl
      have y1 := z.cell (i := 1) rfl
      have y2 := z.cell (i := 2) rfl
      have y3 := z.cell (i := 3) rfl
      have r0 := hBk.cell (i := 0) rfl
      have r1 := hBk.cell (i := 1) rfl
      have r2 := hBk.cell (i := 2) rfl
      have r3 := hBk.cell (i := 3) rfl
      have HBD := hidd hBd
      clear hBd hBk z
      go_wp2_with fail
      refine bodyPost_ret (v := .tuple #[nodeZ, .int .i64 5]) ?_ rfl ?_
      · unfold nodeZ
        rw [results_cell_tmp rfl]
        go_simp
      · exact ⟨HBD.out, .inl ⟨5, HG.out, by decide, by decide, rfl⟩⟩
  · have HG : Hid (getOf t s = .error c) := hidd (by rw [← HC.out]; exact getOf_err (by rw [HC.out]; exact h0))
    have HK2 := hidd hK2
    have HCZ := hidd h0
    have HBD2 := hidd hbd
    have p3 : decide ((0 : Int) < (c : Int)) = true := decide_eq_true (by omega)
    have p4 : (0 : Int) < (c : Int) := by omega
    clear hK2 h0
    have z := HK2.out.bz
    obtain ⟨hBd, hBk, -⟩ := HDN.out _ HK2.out (.string ⟨#[]⟩) (.string ⟨#[]⟩) (.bool false) (.slice none 0 0)
    have f0 := z.frozen 0
    have f1 := z.frozen 1
    have f2 := z.frozen 2
    have f3 := z.frozen 3
    have y0 := z.cell (i := 0) rfl
    have y1 := z.cell (i := 1) rfl
    have y2 := z.cell (i := 2) rfl
    have y3 := z.cell (i := 3) rfl
    have r0 := hBk.cell (i := 0) rfl
    have r1 := hBk.cell (i := 1) rfl
    have r2 := hBk.cell (i := 2) rfl
    have r3 := hBk.cell (i := 3) rfl
    have HBD := hidd hBd
    clear hBd hBk z
    go_wp2_with fail
    refine bodyPost_ret (v := .tuple #[nodeZ, .int .i64 (c : Int)]) ?_ rfl ?_
    · unfold nodeZ
      rw [results_cell_tmp rfl]
      go_simp
    · exact ⟨HBD.out, .inl ⟨c, HG.out, HCZ.out, HBD2.out, rfl⟩⟩
end Go.Proofs.YtoaedkinlnkkhaaGreatDoor
