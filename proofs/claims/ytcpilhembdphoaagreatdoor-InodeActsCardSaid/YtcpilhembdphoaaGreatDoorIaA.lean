/- The blocks that Take takes are the first ones of those that are free. No condition. · The document's table of inodes: how it lies in memory; its Is, IsUsed, Free, All. Condition: the table is there. · The document's table of inodes: IsUsed, Free, All. Condition: the table is there. · The document's table of inodes: write. Condition: the table is there, the blocks are right ones and as many as the text needs. -/
import Derived.Test.YtcpilhembdphoaaGreatDoorSkP
import Derived.Test.YtcpilhembdphoaaGreatDoorScA
import Derived.Test.YtcpilhembdphoaaGreatDoorLaw
import Derived.Test.YtcpilhembdphoaaGreatDoorDrB
namespace Go.Proofs.YtcpilhembdphoaaGreatDoor

/-- The free ones below i, rising. -/
def freeL (us : List Bool) (i : Nat) : List Nat := (List.range i).filter fun j => decide (us.getD j true = false)
theorem freeL_succ (us : List Bool) (i : Nat) : freeL us (i + 1) = freeL us i ++ (if us.getD i true = false then [i] else []) := by
  unfold freeL
  rw [List.range_succ, List.filter_append]
  congr 1
  by_cases h : us.getD i true = false
  · rw [if_pos h, List.filter_cons, if_pos (by simpa using h)]; rfl
  · rw [if_neg h, List.filter_cons, if_neg (by simpa using h)]; rfl
theorem tk_take (us : List Bool) (k : Nat) : ∀ i, (tk us k i).1 = (freeL us i).take k
  | 0 => by simp [tk, freeL]
  | i + 1 => by
    have ih := tk_take us k i
    rw [tk_succ, freeL_succ]
    by_cases hf : us.getD i true = false
    · rw [if_pos hf]
      by_cases hl : (tk us k i).1.length < k
      · rw [if_pos ⟨hl, hf⟩]
        have hlen : (freeL us i).length < k := by rw [ih, List.length_take] at hl; omega
        show (tk us k i).1 ++ [i] = _
        rw [ih, List.take_of_length_le (by omega), List.take_of_length_le (by simp; omega)]
      · rw [if_neg (fun h => hl h.1)]
        have hlen : k ≤ (freeL us i).length := by rw [ih, List.length_take] at hl; omega
        rw [ih, List.take_append_of_le_length hlen]
    · rw [if_neg hf, List.append_nil, if_neg (fun h => hf h.2)]
      exact ih
theorem freeL_len (us : List Bool) : ∀ i, (freeL us i).length = freeTo us i
  | 0 => rfl
  | i + 1 => by
    rw [freeL_succ, List.length_append, freeL_len us i, freeTo]
    by_cases h : us.getD i true = false
    · rw [if_pos h, if_pos h]; rfl
    · rw [if_neg h, if_neg h]; rfl
end Go.Proofs.YtcpilhembdphoaaGreatDoor

namespace Go.Proofs.YtcpilhembdphoaaGreatDoor
open Go.RowKit

/-- A row of the model. -/
def mcell (T : Nat → Option Ino) (V : Nat → Value) (k : Nat) : List Value := match T k with
  | some x => [.bool true, .int .i64 (x.data.size : Int), .int .i64 (x.links : Int), .bool x.exec, V k, .int .i64 ((crc x.data.data.toList : Nat) : Int)]
  | none => [.bool false, .int .i64 0, .int .i64 0, .bool false, .slice none 0 0, .int .i64 0]
theorem mcell_some {T : Nat → Option Ino} {k : Nat} {x : Ino} (h : T k = some x) (V : Nat → Value) : mcell T V k = [.bool true, .int .i64 (x.data.size : Int), .int .i64 (x.links : Int), .bool x.exec, V k, .int .i64 ((crc x.data.data.toList : Nat) : Int)] := by unfold mcell; rw [h]
theorem mcell_none {T : Nat → Option Ino} {k : Nat} (h : T k = none) (V : Nat → Value) : mcell T V k = [.bool false, .int .i64 0, .int .i64 0, .bool false, .slice none 0 0, .int .i64 0] := by unfold mcell; rw [h]
theorem mcell_len (T : Nat → Option Ino) (V : Nat → Value) (k : Nat) : (mcell T V k).length = 6 := by unfold mcell; split <;> rfl
theorem mcell_is (T : Nat → Option Ino) (V : Nat → Value) (k : Nat) : (mcell T V k)[0]? = some (.bool (T k).isSome) := by
  unfold mcell
  split
  · next h => rw [h]; rfl
  · next h => rw [h]; rfl
def mrows (T : Nat → Option Ino) (V : Nat → Value) (K : Nat) : List Value := (List.range K).flatMap (mcell T V)
theorem mrows_succ (T : Nat → Option Ino) (V : Nat → Value) (K : Nat) : mrows T V (K + 1) = mrows T V K ++ mcell T V K := by unfold mrows; rw [List.range_succ, List.flatMap_append]; simp
theorem mrows_len (T : Nat → Option Ino) (V : Nat → Value) : ∀ K, (mrows T V K).length = K * 6
  | 0 => rfl
  | K + 1 => by rw [mrows_succ, List.length_append, mrows_len T V K, mcell_len]; omega
theorem mrows_at (T : Nat → Option Ino) (V : Nat → Value) : ∀ (K : Nat) {k i : Nat}, k < K → i < 6 → (mrows T V K)[k * 6 + i]? = (mcell T V k)[i]?
  | 0, k, i, hk, hi => by omega
  | K + 1, k, i, hk, hi => by
    have hl := mrows_len T V K
    rw [mrows_succ]
    by_cases e : k < K
    · rw [List.getElem?_append_left (by omega)]
      exact mrows_at T V K e hi
    · obtain rfl : k = K := by omega
      rw [List.getElem?_append_right (by omega), hl]
      congr 1
      omega
theorem mrows_congr {T T' : Nat → Option Ino} {V V' : Nat → Value} {K : Nat} (h : ∀ k, k < K → T' k = T k ∧ V' k = V k) : mrows T' V' K = mrows T V K := by
  unfold mrows
  have : ∀ l : List Nat, (∀ k ∈ l, k < K) → l.flatMap (mcell T' V') = l.flatMap (mcell T V) := fun l => by
    induction l with
    | nil => exact fun _ => rfl
    | cons a l ih =>
      intro hl
      rw [List.flatMap_cons, List.flatMap_cons, ih (fun k hk => hl k (List.mem_cons_of_mem _ hk))]
      have := h a (hl a (List.mem_cons_self ..))
      congr 1
      unfold mcell
      rw [this.1, this.2]
  exact this _ (fun k hk => List.mem_range.1 hk)

/-- The model's table: its struct lies in block tm, its disk's in block q. -/
structure MdAt (w : World) (tm q : Nat) (lv rv : Value) (K : Nat) (T : Nat → Option Ino) (V : Nat → Value) (ls : List ByteArray) : Prop where
  tab : Blk w tm [.pointer (some ⟨q, 0, none⟩), rv] 61
  dk : DrAt w q lv (.slice none 0 0) ls []
  row : Ow (fun _ => True) w 104 6 rv K (mrows T V K)
  bl : ∀ k x, T k = some x → Ow (fun _ => True) w 3 1 (V k) x.bl.length (ints x.bl)
  fin : ∀ k, K ≤ k → T k = none
  few : K ≤ 1000000
/-- The blocks that an act on the model may turn. -/
def mdS (tm q : Nat) (lv rv : Value) (b : Nat) : Prop := b = tm ∨ b = q ∨ lv.ownBlock = some b ∨ rv.ownBlock = some b
section
variable {w w' : World} {tm q : Nat} {lv rv : Value} {K : Nat} {T : Nat → Option Ino} {V : Nat → Value} {ls : List ByteArray}
theorem MdAt.fr {S : Nat → Prop} (h : MdAt w tm q lv rv K T V ls) (hf : Fr S w w') (hS : ∀ b, mdS tm q lv rv b → ¬ S b) (hI : ∀ v n xs, Ow (fun _ => True) w 3 1 v n xs → ∀ g, v.ownBlock = some g → ¬ S g) : MdAt w' tm q lv rv K T V ls where
  tab := h.tab.fr hf (hS tm (.inl rfl))
  dk := h.dk.fr hf (by rintro b (e | e | e); exact hS b (.inr (.inl e)); exact hS b (.inr (.inr (.inl e))); simp [Value.ownBlock] at e)
  row := h.row.fr hf (fun g hg => hS g (.inr (.inr (.inr hg))))
  bl := fun k x hx => (h.bl k x hx).fr hf (fun g hg => hI _ _ _ (h.bl k x hx) g hg)
  fin := h.fin
  few := h.few
theorem MdAt.ob (h : MdAt w tm q lv rv K T V ls) (hf : Below w.heap.size w w') : MdAt w' tm q lv rv K T V ls where
  tab := h.tab.below hf h.tab.lt
  dk := h.dk.ob hf (Nat.le_refl _)
  row := h.row.ob hf
  bl := fun k x hx => (h.bl k x hx).ob hf
  fin := h.fin
  few := h.few
theorem MdAt.shape (h : MdAt w tm q lv rv K T V ls) : ∃ a cap, rv = .slice a K cap := h.row.shape
theorem MdAt.c0 (h : MdAt w tm q lv rv K T V ls) : w.cell? ⟨tm, 0, none⟩ = some (.pointer (some ⟨q, 0, none⟩)) := h.tab.cell rfl
theorem MdAt.c1 (h : MdAt w tm q lv rv K T V ls) : w.cell? ⟨tm, 1, none⟩ = some rv := h.tab.cell rfl
theorem MdAt.at {a : Option Addr} {cap : Nat} (h : MdAt w tm q lv (.slice a K cap) K T V ls) {k : Nat} (hk : k < K) : ∃ g off, a = some ⟨g, off, none⟩ ∧ ∀ i, i < 6 → ∀ v, (mcell T V k)[i]? = some v → w.cell? ⟨g, off + k * 6 + i, none⟩ = some v := by
  obtain ⟨g, off, rfl⟩ := h.row.addr (by omega)
  refine ⟨g, off, rfl, fun i hi v hv => ?_⟩
  have := h.row.get (j := k * 6 + i) (v := v) (by rw [mrows_at T V K hk hi]; exact hv)
  rwa [show off + (k * 6 + i) = off + k * 6 + i by omega] at this
end
theorem mapOf_is (T : Nat → Option Ino) (k : Nat) : (mapOf T (k : Int)).isSome = (T k).isSome := by simp [mapOf]

set_option maxRecDepth 100000 in
set_option maxHeartbeats 4000000 in
theorem rIs_any (w : World) (tm q : Nat) (lv rv : Value) (K : Nat) (T : Nat → Option Ino) (V : Nat → Value) (ls : List ByteArray) (h : MdAt w tm q lv rv K T V ls) (k : Int) (hk : -9223372036854775808 ≤ k ∧ k ≤ 9223372036854775807) :
    Calls Tryz.prog 20 #[.pointer (some ⟨tm, 0, none⟩), .int .i64 k] w fun e w' => e = .returned (.bool (mapOf T k).isSome) ∧ w = w' := by
  obtain ⟨a, cap, rfl⟩ := h.shape
  have c1 := h.c1
  by_cases h0 : k < 0
  · have hm : (mapOf T k).isSome = false := by simp [mapOf]; omega
    rw [hm]
    clear h hm
    go_enter Tryz.func20, Tryz.ntmps20
    go_wp2_with fail
    go_ret
    exact ⟨rfl, rfl⟩
  obtain ⟨n, rfl⟩ := Int.eq_ofNat_of_zero_le (show 0 ≤ k by omega)
  rw [mapOf_is]
  by_cases hK : n < K
  · obtain ⟨g, off, rfl, hc⟩ := h.at hK
    have d0 := hc 0 (by omega) _ (mcell_is T V n)
    rw [Nat.add_zero] at d0
    have q1 : ¬ (K : Int) ≤ (n : Int) := by omega
    have q2 : (n : Int) < (K : Int) := by omega
    have q3 : (0 : Int) ≤ (n : Int) := by omega
    clear h hc
    go_enter Tryz.func20, Tryz.ntmps20
    go_wp2_with fail
    go_ret
    exact ⟨rfl, rfl⟩
  · rw [h.fin n (by omega)]
    have q1 : (K : Int) ≤ (n : Int) := by omega
    have q3 : ¬ (n : Int) < 0 := by omega
    clear h
    go_enter Tryz.func20, Tryz.ntmps20
    go_wp2_with fail
    go_ret
    exact ⟨rfl, rfl⟩
end Go.Proofs.YtcpilhembdphoaaGreatDoor

namespace Go.Proofs.YtcpilhembdphoaaGreatDoor
open Go.RowKit

/-- Has one of the first K inodes this block? -/
def usedT (T : Nat → Option Ino) (K b : Nat) : Bool := (List.range K).any fun i => match T i with | some x => decide (b ∈ x.bl) | none => false
theorem usedT_iff {T : Nat → Option Ino} {K b : Nat} : usedT T K b = true ↔ ∃ i x, i < K ∧ T i = some x ∧ b ∈ x.bl := by
  unfold usedT
  rw [List.any_eq_true]
  constructor
  · rintro ⟨i, hi, h⟩
    rw [List.mem_range] at hi
    cases hT : T i with
    | none => rw [hT] at h; cases h
    | some x => rw [hT] at h; exact ⟨i, x, hi, hT, by simpa using h⟩
  · rintro ⟨i, x, hi, hT, hb⟩
    refine ⟨i, List.mem_range.2 hi, ?_⟩
    rw [hT]
    simpa using hb
theorem usedT_us {T : Nat → Option Ino} {K : Nat} {us : List Bool} (hf : ∀ k, K ≤ k → T k = none) (hu : ∀ b, us.getD b false = true ↔ ∃ k x, T k = some x ∧ b ∈ x.bl) (b : Nat) : usedT T K b = us.getD b false := by
  rw [Bool.eq_iff_iff, usedT_iff, hu]
  constructor
  · rintro ⟨i, x, -, h, hb⟩; exact ⟨i, x, h, hb⟩
  · rintro ⟨i, x, h, hb⟩
    refine ⟨i, x, ?_, h, hb⟩
    by_cases hlt : i < K
    · exact hlt
    · rw [hf i (by omega)] at h; cases h

theorem in_back (l : List Nat) (b : Nat) : decide ((b : Int) ∈ l.map fun (j : Nat) => (j : Int)) = decide (b ∈ l) := by
  rw [Bool.eq_iff_iff, decide_eq_true_iff, decide_eq_true_iff, List.mem_map]
  constructor
  · rintro ⟨j, hj, e⟩
    have : j = b := by omega
    exact this ▸ hj
  · exact fun h => ⟨b, h, rfl⟩
set_option maxRecDepth 100000 in
set_option maxHeartbeats 8000000 in
theorem isUsed_any (w : World) (tm q : Nat) (lv rv : Value) (K : Nat) (T : Nat → Option Ino) (V : Nat → Value) (ls : List ByteArray) (h : MdAt w tm q lv rv K T V ls) (b : Nat) :
    Calls Tryz.prog 65 #[.pointer (some ⟨tm, 0, none⟩), .int .i64 (b : Int)] w fun e w' => e = .returned (.bool (usedT T K b)) ∧ Below w.heap.size w w' := by
  obtain ⟨a, cap, rfl⟩ := h.shape
  have hK := h.few
  have HH := hidd (fun W (hW : Below w.heap.size w W) => h.ob hW)
  clear h
  go_enter Tryz.func65, Tryz.ntmps65
  go_wp2_with fail
  go_loopw [5] (fun i wr => ∃ j : Nat, j ≤ K ∧ i = .int .i64 (j : Int) ∧ (∀ i x, i < j → T i = some x → b ∉ x.bl) ∧ Below w.heap.size w wr) (fun i _ => K - (intOf i).toNat)
  case atStart => exact ⟨0, Nat.zero_le _, rfl, fun i x hi => by omega, Below.refl _ _⟩
  case round =>
    obtain ⟨j, hj, rfl, hno, hbe⟩ := hrel
    have hr := HH.out wr hbe
    have c1 := hr.c1
    by_cases hlt : j < K
    · obtain ⟨g, off, rfl, hc⟩ := hr.at hlt
      have p1 : (0 : Int) ≤ (j : Int) := by omega
      have p2 : (j : Int) < (K : Int) := by omega
      have HLT := hidd hlt
      cases hT : T j with
      | none =>
        have hcs := mcell_none hT V
        have d0 := hc 0 (by omega) (.bool false) (by rw [hcs]; rfl)
        rw [Nat.add_zero] at d0
        have HN := hidd (show ∀ i x, i < j + 1 → T i = some x → b ∉ x.bl from fun i x hi hx => by
          by_cases e : i = j
          · subst e; rw [hT] at hx; cases hx
          · exact hno i x (by omega) hx)
        clear hc hcs hr hno hT hlt
        go_wp2_with fail
        go_roundw
        case rel => exact ⟨j + 1, HLT.out, by go_num, HN.out, hbe⟩
        case measure => simp [intOf]; have := HLT.out; omega
      | some x =>
        have hcs := mcell_some hT V
        have d0 := hc 0 (by omega) (.bool true) (by rw [hcs]; rfl)
        rw [Nat.add_zero] at d0
        have d4 := hc 4 (by omega) (V j) (by rw [hcs]; rfl)
        have how := hr.bl j x hT
        obtain ⟨va, vc, hv⟩ := how.shape
        rw [hv] at d4 how
        have hha := has_any (.slice va x.bl.length vc) (x.bl.map fun (j : Nat) => (j : Int)) (b : Int) wr (by
          have := how.sl
          rw [ints_icells] at this
          simpa using this)
        rw [in_back] at hha
        unfold IsBool at hha
        by_cases hin : b ∈ x.bl
        · rw [decide_eq_true hin] at hha
          have HR : Hid (usedT T K b = true) := hidd (usedT_iff.2 ⟨j, x, hlt, hT, hin⟩)
          have HHA := hidd hha
          clear hc hcs hr hno hT hlt hha how hin
          go_wp2_with fail
          refine HHA.out.mono ?_
          rintro e w2 ⟨rfl, rfl⟩
          clear HHA
          go_wp2_with fail
          go_ret
          exact ⟨by rw [HR.out]; rfl, hbe⟩
        · rw [decide_eq_false hin] at hha
          have HN := hidd (show ∀ i x, i < j + 1 → T i = some x → b ∉ x.bl from fun i y hi hy => by
            by_cases e : i = j
            · subst e; rw [hT] at hy; cases hy; exact hin
            · exact hno i y (by omega) hy)
          have HHA := hidd hha
          clear hc hcs hr hno hT hlt hha how hin
          go_wp2_with fail
          refine HHA.out.mono ?_
          rintro e w2 ⟨rfl, rfl⟩
          clear HHA
          go_wp2_with fail
          go_roundw
          case rel => exact ⟨j + 1, HLT.out, by go_num, HN.out, hbe⟩
          case measure => simp [intOf]; have := HLT.out; omega
    · have hkl : j = K := by omega
      subst hkl
      have HR : Hid (usedT T j b = false) := hidd (by
        rw [Bool.eq_false_iff]
        intro h
        obtain ⟨i, x, hi, hx, hb⟩ := usedT_iff.1 h
        exact hno i x hi hx hb)
      clear hr hno hlt
      go_wp2_with fail
      go_ret
      exact ⟨by rw [HR.out]; rfl, hbe⟩
/-- The blocks below k that no inode has. -/
def frK (T : Nat → Option Ino) (K k : Nat) : List Nat := (List.range k).filter fun b => !usedT T K b
theorem frK_succ (T : Nat → Option Ino) (K k : Nat) : frK T K (k + 1) = frK T K k ++ (if usedT T K k = true then [] else [k]) := by
  unfold frK
  rw [List.range_succ, List.filter_append, List.filter_cons, List.filter_nil]
  cases usedT T K k <;> rfl
theorem frK_le (T : Nat → Option Ino) (K k : Nat) : (frK T K k).length ≤ k := by
  unfold frK
  refine Nat.le_trans (List.length_filter_le _ _) ?_
  simp
theorem frK_us {T : Nat → Option Ino} {K : Nat} {us : List Bool} (h : ∀ b, usedT T K b = us.getD b false) : frK T K us.length = freeL us us.length := by
  unfold frK freeL
  refine List.filter_congr (fun b hb => ?_)
  have hlt := List.mem_range.1 hb
  rw [h b, List.getD_eq_getElem?_getD, List.getD_eq_getElem?_getD, List.getElem?_eq_getElem hlt]
  simp
/-- What Free gives. -/
def FrP (l : List Nat) (w : World) (e : Ending) (w' : World) : Prop := ∃ (a : Option Addr) (cap : Nat), e = .returned (.slice a l.length cap) ∧ Ow (fun g => w.heap.size ≤ g) w' 3 1 (.slice a l.length cap) l.length (ints l) ∧ Below w.heap.size w w'
set_option maxRecDepth 100000 in
set_option maxHeartbeats 8000000 in
theorem rfree_any (w : World) (tm q : Nat) (lv rv : Value) (K : Nat) (T : Nat → Option Ino) (V : Nat → Value) (ls : List ByteArray) (h : MdAt w tm q lv rv K T V ls) (hl5 : ls.length ≤ 512) :
    Calls Tryz.prog 45 #[.pointer (some ⟨tm, 0, none⟩)] w (FrP (frK T K ls.length) w) := by
  obtain ⟨i0, hi, hz0, hz1, hz2⟩ := info_parts infoI
  obtain ⟨la, lc, hlv⟩ := h.dk.l.shape
  subst hlv
  have HH := hidd (fun W (hW : Below w.heap.size w W) => h.ob hW)
  clear h
  go_enter Tryz.func45, Tryz.ntmps45
  go_wp2_with fail
  go_loopw [3, 4] (fun vo vi wr => ∃ (k : Nat) (oa : Option Addr) (oc : Nat) (o : List Nat), k ≤ ls.length ∧ vi = .int .i64 (k : Int) ∧ vo = .slice oa o.length oc ∧ o = frK T K k ∧ Ow (fun g => w.heap.size ≤ g) wr 3 1 (.slice oa o.length oc) o.length (ints o) ∧ Below w.heap.size w wr) (fun _ vi _ => ls.length - (intOf vi).toNat)
  case atStart => exact ⟨0, none, 0, [], Nat.zero_le _, rfl, rfl, rfl, Ow.nil _ _ _ _, Below.refl _ _⟩
  case round =>
    obtain ⟨k, oa, oc, o, hk, rfl, rfl, ho, how, hbe⟩ := hrel
    have hr := HH.out wr hbe
    have c0 := hr.c0
    have c1 := hr.dk.head.cell (i := 0) rfl
    by_cases hlt : k < ls.length
    · have p2 : (k : Int) < (ls.length : Int) := by omega
      have hol : o.length ≤ 512 := by have := frK_le T K k; rw [← ho] at this; omega
      have hus := isUsed_any wr tm q _ rv K T V ls hr k
      have hsu := frK_succ T K k
      rw [← ho] at hsu
      have HOW := hidd (fun W (hW : Below wr.heap.size wr W) => how.ob hW)
      have HBE := hidd hbe
      have HLT := hidd hlt
      cases hq : usedT T K k
      · rw [hq] at hus hsu
        have HN : Hid (frK T K (k + 1) = o ++ [k]) := hidd (by rw [hsu]; rfl)
        have HUS := hidd hus
        clear hus hsu how hbe hlt ho hr hq
        go_wp2_with fail
        refine HUS.out.mono ?_
        rintro e w2 ⟨rfl, hb2⟩
        have hb2' := below_step HBE.out hb2
        have HO2 := hidd ((HOW.out w2 hb2).alloc (.cells #[.int .i64 (k : Int)] 3))
        have hs1 := Src.new (P := Tryz.prog) (size := 1) (tx := 31) Tryz.underlying31 w2 w2.heap.size rfl [.int .i64 (k : Int)] 3 rfl (by intro u hu; simp only [List.mem_cons, List.not_mem_nil, or_false] at hu; rcases hu with rfl; rfl) 1
        have hB6 := hb2'.alloc hb2'.size (.cells #[.int .i64 (k : Int)] 3)
        have hsz6 := hB6.size
        have hsz5 := hb2'.size
        clear hb2 HUS HBE HOW hb2' c0 c1
        go_wp2_with (at_builtin; refine wpList_append_ow _ rfl _ _ 31 31 rfl (fun g => w.heap.size ≤ g) ?cF 3 i0 _ 1 8 Tryz.underlying31 hi hz0 hz1 hz2 rfl (by decide) _ _ _ rfl HO2.out _ _ _ rfl hs1 ?c3 ?c4 ?_)
        case cF => intro g hg; omega
        case c3 => unfold maxLen; omega
        case c4 => omega
        intro v' w7 how7 hgr7
        obtain ⟨va7, vc7, rfl⟩ := how7.shape
        have HO7 := hidd how7
        have HB7 := hidd (hB6.grown hgr7 hB6.size (fun k hk => (HO2.out.blk k hk).1))
        clear how7 hgr7 HO2 hs1 hB6 hsz6 hsz5
        go_wp2_with fail
        go_roundw
        case rel => exact ⟨k + 1, va7, vc7, o ++ [k], HLT.out, by go_num, by rw [List.length_append]; rfl, HN.out.symm, by rw [List.length_append, ints_snoc]; exact HO7.out, HB7.out⟩
        case measure => simp [intOf]; have := HLT.out; omega
      · rw [hq] at hus hsu
        have HN : Hid (frK T K (k + 1) = o) := hidd (by rw [hsu]; simp)
        have HUS := hidd hus
        clear hus hsu how hbe hlt ho hr hq
        go_wp2_with fail
        refine HUS.out.mono ?_
        rintro e w2 ⟨rfl, hb2⟩
        have HB2 := hidd (below_step HBE.out hb2)
        have HO2 := hidd (HOW.out w2 hb2)
        clear hb2 HUS HBE HOW c0 c1
        go_wp2_with fail
        go_roundw
        case rel => exact ⟨k + 1, oa, oc, o, HLT.out, by go_num, rfl, HN.out.symm, HO2.out, HB2.out⟩
        case measure => simp [intOf]; have := HLT.out; omega
    · have hkl : k = ls.length := by omega
      subst hkl
      have HP := hidd (show FrP (frK T K ls.length) w (.returned (.slice oa o.length oc)) wr from ho ▸ ⟨oa, oc, rfl, how, hbe⟩)
      clear ho how hbe hlt hr
      go_wp2_with fail
      go_ret
      exact HP.out
/-- The inodes' numbers below k. -/
def keyK (T : Nat → Option Ino) (k : Nat) : List Nat := (List.range k).filter fun i => (T i).isSome
theorem keyK_succ (T : Nat → Option Ino) (k : Nat) : keyK T (k + 1) = keyK T k ++ (if (T k).isSome = true then [k] else []) := by
  unfold keyK
  rw [List.range_succ, List.filter_append, List.filter_cons, List.filter_nil]
theorem keyK_le (T : Nat → Option Ino) (k : Nat) : (keyK T k).length ≤ k := by
  unfold keyK
  refine Nat.le_trans (List.length_filter_le _ _) ?_
  simp
theorem keyK_keys {T : Nat → Option Ino} {K : Nat} (hf : ∀ k, K ≤ k → T k = none) : KeysOf T (keyK T K) := by
  refine ⟨List.Pairwise.filter _ List.pairwise_lt_range, fun k => ?_⟩
  unfold keyK
  rw [List.mem_filter, List.mem_range]
  refine ⟨fun h => h.2, fun h => ⟨?_, h⟩⟩
  by_cases hlt : k < K
  · exact hlt
  · rw [hf k (by omega)] at h; cases h
set_option maxRecDepth 100000 in
set_option maxHeartbeats 8000000 in
theorem rall_any (w : World) (tm q : Nat) (lv rv : Value) (K : Nat) (T : Nat → Option Ino) (V : Nat → Value) (ls : List ByteArray) (h : MdAt w tm q lv rv K T V ls) :
    Calls Tryz.prog 46 #[.pointer (some ⟨tm, 0, none⟩)] w (FrP (keyK T K) w) := by
  obtain ⟨i0, hi, hz0, hz1, hz2⟩ := info_parts infoI
  obtain ⟨a, cap, rfl⟩ := h.shape
  have hK := h.few
  have HH := hidd (fun W (hW : Below w.heap.size w W) => h.ob hW)
  clear h
  go_enter Tryz.func46, Tryz.ntmps46
  go_wp2_with fail
  go_loopw [3, 4] (fun vo vi wr => ∃ (k : Nat) (oa : Option Addr) (oc : Nat) (o : List Nat), k ≤ K ∧ vi = .int .i64 (k : Int) ∧ vo = .slice oa o.length oc ∧ o = keyK T k ∧ Ow (fun g => w.heap.size ≤ g) wr 3 1 (.slice oa o.length oc) o.length (ints o) ∧ Below w.heap.size w wr) (fun _ vi _ => K - (intOf vi).toNat)
  case atStart => exact ⟨0, none, 0, [], Nat.zero_le _, rfl, rfl, rfl, Ow.nil _ _ _ _, Below.refl _ _⟩
  case round =>
    obtain ⟨k, oa, oc, o, hk, rfl, rfl, ho, how, hbe⟩ := hrel
    have hr := HH.out wr hbe
    have c1 := hr.c1
    by_cases hlt : k < K
    · obtain ⟨g, off, rfl, hc⟩ := hr.at hlt
      have d0 := hc 0 (by omega) _ (mcell_is T V k)
      rw [Nat.add_zero] at d0
      have p1 : (0 : Int) ≤ (k : Int) := by omega
      have p2 : (k : Int) < (K : Int) := by omega
      have hol : o.length ≤ 1000000 := by have := keyK_le T k; rw [← ho] at this; omega
      have hsu := keyK_succ T k
      rw [← ho] at hsu
      have HLT := hidd hlt
      cases hq : (T k).isSome
      · rw [hq] at d0 hsu
        have HN : Hid (keyK T (k + 1) = o) := hidd (by rw [hsu]; simp)
        have HO2 := hidd how
        have HB2 := hidd hbe
        clear hsu how hbe hlt ho hr hc hq
        go_wp2_with fail
        go_roundw
        case rel => exact ⟨k + 1, oa, oc, o, HLT.out, by go_num, rfl, HN.out.symm, HO2.out, HB2.out⟩
        case measure => simp [intOf]; have := HLT.out; omega
      · rw [hq] at d0 hsu
        have HN : Hid (keyK T (k + 1) = o ++ [k]) := hidd (by rw [hsu]; rfl)
        have HO2 := hidd (how.alloc (.cells #[.int .i64 (k : Int)] 3))
        have hs1 := Src.new (P := Tryz.prog) (size := 1) (tx := 31) Tryz.underlying31 wr wr.heap.size rfl [.int .i64 (k : Int)] 3 rfl (by intro u hu; simp only [List.mem_cons, List.not_mem_nil, or_false] at hu; rcases hu with rfl; rfl) 1
        have hB6 := hbe.alloc hbe.size (.cells #[.int .i64 (k : Int)] 3)
        have hsz6 := hB6.size
        have hsz5 := hbe.size
        clear hsu how hbe hlt ho hr hc hq
        go_wp2_with (at_builtin; refine wpList_append_ow _ rfl _ _ 31 31 rfl (fun g => w.heap.size ≤ g) ?cF 3 i0 _ 1 8 Tryz.underlying31 hi hz0 hz1 hz2 rfl (by decide) _ _ _ rfl HO2.out _ _ _ rfl hs1 ?c3 ?c4 ?_)
        case cF => intro g hg; omega
        case c3 => unfold maxLen; omega
        case c4 => omega
        intro v' w7 how7 hgr7
        obtain ⟨va7, vc7, rfl⟩ := how7.shape
        have HO7 := hidd how7
        have HB7 := hidd (hB6.grown hgr7 hB6.size (fun k hk => (HO2.out.blk k hk).1))
        clear how7 hgr7 HO2 hs1 hB6 hsz6 hsz5
        go_wp2_with fail
        go_roundw
        case rel => exact ⟨k + 1, va7, vc7, o ++ [k], HLT.out, by go_num, by rw [List.length_append]; rfl, HN.out.symm, by rw [List.length_append, ints_snoc]; exact HO7.out, HB7.out⟩
        case measure => simp [intOf]; have := HLT.out; omega
    · have hkl : k = K := by omega
      subst hkl
      have HP := hidd (show FrP (keyK T k) w (.returned (.slice oa o.length oc)) wr from ho ▸ ⟨oa, oc, rfl, how, hbe⟩)
      clear ho how hbe hlt hr
      go_wp2_with fail
      go_ret
      exact HP.out
end Go.Proofs.YtcpilhembdphoaaGreatDoor

namespace Go.Proofs.YtcpilhembdphoaaGreatDoor
open Go.RowKit

theorem zb_cat (S : ByteArray) (k : Nat) : S ++ zb k ++ ⟨#[0]⟩ = S ++ zb (k + 1) := by
  rw [ByteArray.append_assoc]
  congr 1
  exact zb_succ k
/-- What write does. -/
def RwPost (q : Nat) (lv : Value) (ls : List ByteArray) (w : World) (e : Ending) (w' : World) : Prop :=
  (∃ u, e = .returned u) ∧ DrAt w' q lv (.slice none 0 0) ls [] ∧ Fr (fun b => b = q ∨ lv.ownBlock = some b) w w'
set_option maxRecDepth 100000 in
set_option maxHeartbeats 8000000 in
theorem rwrite_ok (tm q : Nat) (lv v : Value) (bl : List Nat) (data : ByteArray) (ls : List ByteArray) (w : World) (htc : w.cell? ⟨tm, 0, none⟩ = some (.pointer (some ⟨q, 0, none⟩))) (hdk : DrAt w q lv (.slice none 0 0) ls []) (hlv : Sl w v (ints bl) bl.length 1)
    (hlb : ∀ k, v.ownBlock = some k → ¬ (k = q ∨ lv.ownBlock = some k)) (hb : ∀ b ∈ bl, b < ls.length) (hn : bl.length = needN data.size) (hds : data.size ≤ 2000) (htq : ¬ (tm = q ∨ lv.ownBlock = some tm)) (hpos : 0 < ls.length) :
    Calls Tryz.prog 61 #[.pointer (some ⟨tm, 0, none⟩), v, .string data] w (RwPost q lv (lsN ls bl data bl.length) w) := by
  obtain ⟨la, lcap, rfl, -⟩ := id hlv
  have hbl125 : bl.length ≤ 125 := by rw [hn]; exact needN_le _ hds
  have HN := hidd hn
  clear hn
  go_enter Tryz.func61, Tryz.ntmps61
  go_wp2_with fail
  go_loopw [2, 6] (fun dv i wr => ∃ (j : Nat) (wv : Value) (D : ByteArray), j ≤ bl.length ∧ i = .int .i64 (j : Int) ∧ dv = .string D ∧ D.data.toList = data.data.toList.drop (16 * j) ∧ DrAt wr q lv wv ls (wsN bl data j) ∧ (∀ b, wv.ownBlock = some b → w.heap.size ≤ b) ∧ Fr (fun b => b = q ∨ lv.ownBlock = some b) w wr) (fun _ i _ => bl.length - (intOf i).toNat)
  case atStart => exact ⟨0, _, data, Nat.zero_le _, rfl, rfl, by simp, hdk, fun b hb => by simp [Value.ownBlock] at hb, Fr.refl _ _⟩
  case round =>
    obtain ⟨j, wv, D, hj, rfl, rfl, hD, hdr, hvl, hfr⟩ := hrel
    have htr : wr.cell? ⟨tm, 0, none⟩ = some (.pointer (some ⟨q, 0, none⟩)) := hfr.cell htc htq
    have hsr := hlv.fr hfr hlb
    have hDs := rest_list hD
    by_cases hlt : j < bl.length
    · obtain ⟨sb, so, rfl, -, hc, hcell⟩ := hsr.at1 hlt
      rw [show (ints bl)[j] = .int .i64 ((bl[j] : Nat) : Int) by simp [ints]] at hcell
      have hk : bl[j] < ls.length := hb _ (List.getElem_mem _)
      have hg : bl.getD j 0 = bl[j] := by rw [List.getD_eq_getElem?_getD, List.getElem?_eq_getElem hlt]; rfl
      have hws := wsN_succ bl data j
      rw [hg] at hws
      have hlo : 16 * j < data.size := needN_lo data.size (by rw [← (show bl.length = needN data.size from HN)]; exact hlt)
      have q1 : (0 : Int) ≤ (j : Int) := by omega
      have q2 : (j : Int) < (bl.length : Int) := by omega
      have hwl := wsN_len bl data j
      generalize bl[j] = k at *
      have HPUT := hidd (fun S => rput_any q lv wv ls (wsN bl data j) k S wr.drew (hdr.fr (Fr.refl (fun _ => False) wr).drew (fun _ _ x => x)) hk (by rw [hwl]; omega))
      have HVL := hidd hvl
      have HFR := hidd hfr
      have HWS := hidd hws
      have HLT := hidd hlt
      have HDK := hidd hdr
      clear hg hc hws hwl hvl hfr hdr hlb hlv hdk hsr htq htc
      have HDS := hidd hDs
      have hDl : D.size ≤ 2000 := by omega
      have HLO := hidd hlo
      clear hDs hlo
      by_cases h16 : 16 < D.size
      · have r1 : (16 : Int) < (D.size : Int) := by omega
        have r2 : (16 : Int) ≤ (D.size : Int) := by omega
        have HP : Hid (D.extract 0 16 ++ zb (16 - 16) = pcB data j) := hidd (piece_full hD (by omega))
        have hs16 : (D.extract 0 16).size = 16 := by simp; omega
        have HD2 : Hid ((D.extract 16 D.size).data.toList = data.data.toList.drop (16 * (j + 1))) := hidd (by
          rw [Lib.extract_to_end, hD, List.drop_drop]; congr 1)
        clear hD
        go_upto_region 6 with fail
        generalize D.extract 0 16 = S at *
        have s16 : (S.size : Int) = 16 := by omega
        have HS16 := hidd hs16
        clear hs16
        go_wp2_with fail
        clear s16
        go_loop [7] (fun s => s = .string S) (fun _ => 0)
        case atStart => rfl
        case round =>
          subst hrel
          have s16 : ¬ (S.size : Int) < 16 := by have := HS16.out; omega
          go_wp2_with fail
          have hX : S = pcB data j := by
            have := HP.out
            rw [show zb (16 - 16) = ByteArray.empty from rfl] at this
            simpa using this
          rw [hX]
          have hcd : wr.drew.cell? ⟨tm, 0, none⟩ = some (.pointer (some ⟨q, 0, none⟩)) := htr
          have hce : wr.drew.cell? ⟨sb, so + j, none⟩ = some (.int .i64 (k : Int)) := hcell
          clear hX HP HS16 s16 r1 r2 h16
          go_region_with (first
            | (go_at_call 83; refine (HPUT.out _).mono ?_; rintro e w8 ⟨⟨u, rfl⟩, wv', hdk2, hv2, hf2⟩))
          all_goals
            go_wp2_with fail
            go_roundw
            case rel => exact ⟨j + 1, wv', _, HLT.out, by go_num, rfl, HD2.out, by rw [HWS.out]; exact hdk2, fun b hb => (hv2 b hb).elim (HVL.out b) (fun h => Nat.le_trans HFR.out.size h), HFR.out.drew.trans' hf2 (fun _ _ x => x) (fun i hi hx => by
              rcases hx with h | h | h
              · exact .inl h
              · exact .inr h
              · have := HVL.out i h; omega)⟩
            case measure => simp [intOf]; have := HLT.out; omega
      · have r1 : ¬ (16 : Int) < (D.size : Int) := by omega
        have r2 : (D.size : Int) ≤ (D.size : Int) := by omega
        have HP : Hid (D ++ zb (16 - D.size) = pcB data j) := hidd (by
          by_cases e : D.size = 16
          · have := piece_full hD (by omega)
            rw [show D.extract 0 16 = D by rw [← e]; simp] at this
            rw [e]; exact this
          · exact piece_last hD (by omega))
        have HD2 : Hid (ByteArray.empty.data.toList = data.data.toList.drop (16 * (j + 1))) := hidd (by
          rw [List.drop_eq_nil_of_le (by rw [← Lib.size_eq]; have := HDS.out; have := HLO.out; omega)]; rfl)
        have H16 := hidd h16
        clear hD h16
        go_wp2_with fail
        go_loop [7] (fun s => ∃ kk, D.size + kk ≤ 16 ∧ s = .string (D ++ zb kk)) (fun s => 16 - (match s with | .string b => b.size | _ => 0))
        case atStart => exact ⟨0, by have := H16.out; omega, congrArg Value.string (show D = D ++ zb 0 from by rw [show zb 0 = ByteArray.empty from rfl]; simp)⟩
        case round =>
          obtain ⟨kk, hkk, rfl⟩ := hrel
          have hzs : (D ++ zb kk).size = D.size + kk := by rw [ByteArray.size_append, zb_size]
          have HCAT := hidd (zb_cat D kk)
          have HPX := hidd (show D.size + kk = 16 → D ++ zb kk = pcB data j from fun h => by rw [← HP.out]; congr 2; omega)
          generalize D ++ zb kk = X at *
          by_cases hlt2 : D.size + kk < 16
          · have s16 : (X.size : Int) < 16 := by omega
            have hcat : ¬ 9223372036854775807 < X.size + 1 := by omega
            have HZS := hidd hzs
            clear hzs
            go_wp2_with fail
            go_round
            case rel => exact ⟨kk + 1, by omega, by rw [← HCAT.out]⟩
            case measure => have := HZS.out; have h2 : (X ++ ⟨#[0]⟩ : ByteArray).size = D.size + kk + 1 := by rw [ByteArray.size_append, this]; rfl
                            simp only [h2, this]; omega
          · have s16 : ¬ (X.size : Int) < 16 := by omega
            have HX := hidd (HPX.out (by omega))
            clear hzs
            go_wp2_with fail
            rw [show X = pcB data j from HX.out]
            have hcd : wr.drew.cell? ⟨tm, 0, none⟩ = some (.pointer (some ⟨q, 0, none⟩)) := htr
            have hce : wr.drew.cell? ⟨sb, so + j, none⟩ = some (.int .i64 (k : Int)) := hcell
            clear HP s16 r1 r2
            go_region_with (first
              | (go_at_call 83; refine (HPUT.out _).mono ?_; rintro e w8 ⟨⟨u, rfl⟩, wv', hdk2, hv2, hf2⟩))
            all_goals
              go_wp2_with fail
              go_roundw
              case rel => exact ⟨j + 1, wv', _, HLT.out, by go_num, rfl, HD2.out, by rw [HWS.out]; exact hdk2, fun b hb => (hv2 b hb).elim (HVL.out b) (fun h => Nat.le_trans HFR.out.size h), HFR.out.drew.trans' hf2 (fun _ _ x => x) (fun i hi hx => by
                rcases hx with h | h | h
                · exact .inl h
                · exact .inr h
                · have := HVL.out i h; omega)⟩
              case measure => simp [intOf]; have := HLT.out; omega
    · have hjl : j = bl.length := by omega
      subst hjl
      have HCR := hidd (rcrash_any q lv wv ls (wsN bl data bl.length) (.slice none 0 0) [] true wr hdr hpos (Sl.nil _ _) (fun h => by simp at h))
      have HVL := hidd hvl
      have HFR := hidd hfr
      clear hvl hfr hdr hsr hDs hD hlt hlv hlb htc htq hdk
      go_wp2_with fail
      refine HCR.out.mono ?_
      rintro e w8 ⟨⟨u, rfl⟩, hdk2, hf2⟩
      have hcr : crTo (fun i => true || keptB [] i) ls (wsN bl data bl.length) (wsN bl data bl.length).length = lsN ls bl data bl.length := by
        rw [wsN_len]
        have := crTo_wsN ls bl data bl.length bl.length (Nat.le_refl _)
        simpa using this
      rw [hcr] at hdk2
      have HP := hidd (show Fr (fun b => b = q ∨ lv.ownBlock = some b) w w8 from HFR.out.trans' hf2 (fun _ _ x => x) (fun i hi hx => by
        rcases hx with h | h | h
        · exact .inl h
        · exact .inr h
        · have := HVL.out i h; omega))
      have HD := hidd hdk2
      clear hdk2 hf2 hcr HCR HFR HVL
      go_wp2_with fail
      go_end0
      exact ⟨⟨_, rfl⟩, HD.out, HP.out⟩
end Go.Proofs.YtcpilhembdphoaaGreatDoor
