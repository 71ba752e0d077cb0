/- The document's table of inodes: Make. Condition: the table is there. -/
import Derived.Test.YtcpilhembdphoaaGreatDoorIaA
import Derived.Test.YtcpilhembdphoaaGreatDoorSpC
namespace Go.Proofs.YtcpilhembdphoaaGreatDoor
open Go.RowKit

/-- Six cells, one behind the other, become others. -/
def set6 (xs : List Value) (o : Nat) (c0 c1 c2 c3 c4 c5 : Value) : List Value := (((((xs.set o c0).set (o + 1) c1).set (o + 2) c2).set (o + 3) c3).set (o + 4) c4).set (o + 5) c5
theorem set6_len (xs : List Value) (o : Nat) (c0 c1 c2 c3 c4 c5 : Value) : (set6 xs o c0 c1 c2 c3 c4 c5).length = xs.length := by simp [set6]
theorem mrows_put {T T' : Nat → Option Ino} {V V' : Nat → Value} {K k : Nat} (hk : k < K) {c0 c1 c2 c3 c4 c5 : Value} (hc : mcell T' V' k = [c0, c1, c2, c3, c4, c5]) (ho : ∀ i, i < K → i ≠ k → mcell T' V' i = mcell T V i) :
    mrows T' V' K = set6 (mrows T V K) (k * 6) c0 c1 c2 c3 c4 c5 := by
  refine List.ext_getElem? (fun q => ?_)
  have hl := mrows_len T V K
  have hl' := mrows_len T' V' K
  by_cases hq : q < K * 6
  · have hL : (mrows T' V' K)[q]? = (mcell T' V' (q / 6))[q % 6]? := by
      have := mrows_at T' V' K (k := q / 6) (i := q % 6) (by omega) (by omega)
      rwa [show q / 6 * 6 + q % 6 = q by omega] at this
    have hR : (mrows T V K)[q]? = (mcell T V (q / 6))[q % 6]? := by
      have := mrows_at T V K (k := q / 6) (i := q % 6) (by omega) (by omega)
      rwa [show q / 6 * 6 + q % 6 = q by omega] at this
    rw [hL]
    unfold set6
    simp only [List.getElem?_set, List.length_set, hl]
    by_cases e : q / 6 = k
    · subst e
      rw [hc]
      have h6 : q % 6 = 0 ∨ q % 6 = 1 ∨ q % 6 = 2 ∨ q % 6 = 3 ∨ q % 6 = 4 ∨ q % 6 = 5 := by omega
      rcases h6 with h | h | h | h | h | h
      · rw [h, if_neg (by omega), if_neg (by omega), if_neg (by omega), if_neg (by omega), if_neg (by omega), if_pos (by omega), if_pos (by omega)]; rfl
      · rw [h, if_neg (by omega), if_neg (by omega), if_neg (by omega), if_neg (by omega), if_pos (by omega), if_pos (by omega)]; rfl
      · rw [h, if_neg (by omega), if_neg (by omega), if_neg (by omega), if_pos (by omega), if_pos (by omega)]; rfl
      · rw [h, if_neg (by omega), if_neg (by omega), if_pos (by omega), if_pos (by omega)]; rfl
      · rw [h, if_neg (by omega), if_pos (by omega), if_pos (by omega)]; rfl
      · rw [h, if_pos (by omega), if_pos (by omega)]; rfl
    · rw [if_neg (by omega), if_neg (by omega), if_neg (by omega), if_neg (by omega), if_neg (by omega), if_neg (by omega), ho _ (by omega) e, hR]
  · rw [List.getElem?_eq_none (by omega), List.getElem?_eq_none (by rw [set6_len]; omega)]
/-- Rows of different types share no block. -/
theorem own_ne_own {F G : Nat → Prop} {w : World} {v u : Value} {n m : Nat} {xs ys : List Value} {S T : TypeId} {z y : Nat} (h : Ow F w S z v n xs) (k : Ow G w T y u m ys) (hn : S ≠ T) {b : Nat} (hv : v.ownBlock = some b) : u.ownBlock ≠ some b := by
  rcases h.2 with ⟨rfl, -⟩ | ⟨g, o, cap, cur, rfl, -, hg, -⟩
  · simp [Value.ownBlock] at hv
  rcases k.2 with ⟨rfl, -⟩ | ⟨g', o', cap', cur', rfl, -, hg', -⟩
  · simp [Value.ownBlock]
  · simp only [Value.ownBlock, Option.some.injEq] at hv
    subst hv
    simp only [Value.ownBlock, ne_eq, Option.some.injEq]
    rintro rfl
    rw [hg] at hg'
    injection hg' with hg'
    injection hg' with _ hg'
    exact hn hg'
theorem Ow.takeN {F : Nat → Prop} {w : World} {a : Option Addr} {n cap : Nat} {l : List Nat} (h : Ow F w 3 1 (.slice a n cap) l.length (ints l)) {k : Nat} (hk : k ≤ l.length) : Ow F w 3 1 (.slice a k cap) (l.take k).length (ints (l.take k)) := by
  have hlen : (l.take k).length = k := by rw [List.length_take]; omega
  have hi : ints (l.take k) = (ints l).take k := by simp [ints, List.map_take]
  refine ⟨by simp [ints], ?_⟩
  rcases h.2 with ⟨he, h0⟩ | ⟨g, off, cap', cur, he, hF, hg, h1, h2, h3, h4⟩
  · left
    simp only [Value.slice.injEq] at he
    obtain ⟨rfl, rfl, rfl⟩ := he
    have : k = 0 := by omega
    subst this
    exact ⟨rfl, by simp⟩
  · right
    simp only [Value.slice.injEq] at he
    obtain ⟨rfl, rfl, rfl⟩ := he
    refine ⟨g, off, cap, cur, by rw [hlen], hF, hg, by omega, h2, h3, ?_⟩
    rw [hlen, hi, ← h4, List.take_take]
    congr 1
    omega
theorem infoIn : (Tryz.prog.info? 104).map (fun i => (i.zero, i.size, i.bytes)) = some (some (.agg #[.bool false, .int .i64 0, .int .i64 0, .bool false, .slice none 0 0, .int .i64 0]), 6, 64) := by kernel_rfl
theorem Ow.slf {F : Nat → Prop} {w : World} {e : TypeId} {size : Nat} {v : Value} {n : Nat} {xs : List Value} (h : Ow F w e size v n xs) (N : Nat) : Ow (fun g => v.ownBlock = some g ∨ N ≤ g) w e size v n xs := by
  refine ⟨h.1, ?_⟩
  rcases h.2 with h2 | ⟨g, off, cap, cur, rfl, -, rest⟩
  · exact .inl h2
  · exact .inr ⟨g, off, cap, cur, rfl, .inl rfl, rest⟩
def updV (V : Nat → Value) (k : Nat) (v : Value) (i : Nat) : Value := if i = k then v else V i
/-- The world where six cells of a row are others. -/
def put6 (w : World) (g o : Nat) (c0 c1 c2 c3 c4 c5 : Value) : World := (((((w.setCell ⟨g, o, none⟩ c0).setCell ⟨g, o + 1, none⟩ c1).setCell ⟨g, o + 2, none⟩ c2).setCell ⟨g, o + 3, none⟩ c3).setCell ⟨g, o + 4, none⟩ c4).setCell ⟨g, o + 5, none⟩ c5
theorem put6_fr (w : World) (g o : Nat) (c0 c1 c2 c3 c4 c5 : Value) : Fr (fun b => b = g) w (put6 w g o c0 c1 c2 c3 c4 c5) :=
  ((((((Fr.refl (fun b => b = g) w).setCell (p := ⟨g, o, none⟩) (.inl rfl) c0).setCell (p := ⟨g, o + 1, none⟩) (.inl rfl) c1).setCell (p := ⟨g, o + 2, none⟩) (.inl rfl) c2).setCell (p := ⟨g, o + 3, none⟩) (.inl rfl) c3).setCell (p := ⟨g, o + 4, none⟩) (.inl rfl) c4).setCell (p := ⟨g, o + 5, none⟩) (.inl rfl) c5
theorem Ow.put6 {F : Nat → Prop} {w : World} {e : TypeId} {g off n cap : Nat} {xs : List Value} (h : Ow F w e 6 (.slice (some ⟨g, off, none⟩) n cap) n xs) {j : Nat} (hj : j < n) (c0 c1 c2 c3 c4 c5 : Value) :
    Ow F (put6 w g (off + j * 6) c0 c1 c2 c3 c4 c5) e 6 (.slice (some ⟨g, off, none⟩) n cap) n (set6 xs (j * 6) c0 c1 c2 c3 c4 c5) := by
  have hn : 0 < n := by omega
  have h0 := h.setAt hn (j := j * 6) (by omega) c0
  have h1 := h0.setAt hn (j := j * 6 + 1) (by omega) c1
  have h2 := h1.setAt hn (j := j * 6 + 2) (by omega) c2
  have h3 := h2.setAt hn (j := j * 6 + 3) (by omega) c3
  have h4 := h3.setAt hn (j := j * 6 + 4) (by omega) c4
  have h5 := h4.setAt hn (j := j * 6 + 5) (by omega) c5
  exact h5
/-- A row of the model becomes another one. -/
theorem MdAt.put {w : World} {tm q : Nat} {lv : Value} {g off cap K : Nat} {T : Nat → Option Ino} {V : Nat → Value} {ls : List ByteArray} (h : MdAt w tm q lv (.slice (some ⟨g, off, none⟩) K cap) K T V ls) {k : Nat} (hk : k < K) (o : Option Ino) (v : Value) {c0 c1 c2 c3 c4 c5 : Value} (hc : mcell (upd T k o) (updV V k v) k = [c0, c1, c2, c3, c4, c5])
    (hv : ∀ x, o = some x → Ow (fun _ => True) w 3 1 v x.bl.length (ints x.bl)) : MdAt (put6 w g (off + k * 6) c0 c1 c2 c3 c4 c5) tm q lv (.slice (some ⟨g, off, none⟩) K cap) K (upd T k o) (updV V k v) ls where
  tab := h.tab.fr (put6_fr ..) (fun e => own_ne h.row h.tab (by decide) (by rw [e]; rfl))
  dk := h.dk.fr (put6_fr ..) (by
    rintro b (e | e | e) hb
    · exact own_ne h.row h.dk.head (by decide) (by rw [← e, hb]; rfl)
    · exact own_ne_own h.row h.dk.l (by decide) (b := b) (by rw [hb]; rfl) e
    · simp [Value.ownBlock] at e)
  row := by
    rw [mrows_put hk hc (fun i _ hi => by unfold mcell updV; rw [upd_other _ _ _ hi, if_neg hi])]
    exact h.row.put6 hk ..
  bl := fun i x hx => by
    have hfr : ∀ (u : Value) (m : Nat) (xs : List Value), Ow (fun _ => True) w 3 1 u m xs → Ow (fun _ => True) (put6 w g (off + k * 6) c0 c1 c2 c3 c4 c5) 3 1 u m xs := fun u m xs hu => hu.fr (put6_fr ..) (fun b hb e => own_ne_own hu h.row (by decide) hb (by rw [e]; rfl))
    by_cases e : i = k
    · subst e
      rw [upd_same] at hx
      rw [show updV V i v i = v from if_pos rfl]
      exact hfr _ _ _ (hv x hx)
    · rw [upd_other _ _ _ e] at hx
      rw [show updV V k v i = V i from if_neg e]
      exact hfr _ _ _ (h.bl i x hx)
  fin := fun i hi => by rw [upd_other _ _ _ (by omega)]; exact h.fin i hi
  few := h.few
/-- One row more. -/
theorem MdAt.app {w w4 : World} {tm q : Nat} {lv rv : Value} {K : Nat} {T : Nat → Option Ino} {V : Nat → Value} {ls : List ByteArray} (h : MdAt w tm q lv rv K T V ls) (hK : K < 1000000) (hfr : Fr (fun b => rv.ownBlock = some b) w w4) {a : Option Addr} {cap : Nat} {c : List Value}
    (ho : Ow (fun g => rv.ownBlock = some g ∨ w.heap.size ≤ g) w4 104 6 (.slice a (K + 1) cap) (K + 1) (mrows T V K ++ c)) (x : Ino) (v : Value) (hc : mcell (upd T K (some x)) (updV V K v) K = c) (hv : Ow (fun _ => True) w 3 1 v x.bl.length (ints x.bl)) (hb4 : Blk w4 tm [.pointer (some ⟨q, 0, none⟩), rv] 61) :
    MdAt (w4.setCell ⟨tm, 1, none⟩ (.slice a (K + 1) cap)) tm q lv (.slice a (K + 1) cap) (K + 1) (upd T K (some x)) (updV V K v) ls ∧ Fr (fun b => b = tm ∨ rv.ownBlock = some b) w (w4.setCell ⟨tm, 1, none⟩ (.slice a (K + 1) cap)) := by
  have hf5 : Fr (fun b => b = tm ∨ rv.ownBlock = some b) w (w4.setCell ⟨tm, 1, none⟩ (.slice a (K + 1) cap)) := (hfr.mono (fun _ _ h => .inr h)).setCell (p := ⟨tm, 1, none⟩) (.inl (.inl rfl)) _
  have hrt : rv.ownBlock ≠ some tm := own_ne h.row h.tab (by decide)
  have hint : ∀ (u : Value) (m : Nat) (xs : List Value), Ow (fun _ => True) w 3 1 u m xs → Ow (fun _ => True) (w4.setCell ⟨tm, 1, none⟩ (.slice a (K + 1) cap)) 3 1 u m xs := fun u m xs hu => hu.fr hf5 (by
    rintro b hb (e | e)
    · exact own_ne hu h.tab (by decide) (e ▸ hb)
    · exact own_ne_own hu h.row (by decide) hb e)
  refine ⟨⟨hb4.set 1 _, h.dk.fr hf5 ?_, ?_, fun i y hy => ?_, fun i hi => by rw [upd_other _ _ _ (by omega)]; exact h.fin i (by omega), by omega⟩, hf5⟩
  · rintro b (e | e | e) (e2 | e2)
    · exact blk_ne h.dk.head h.tab (by decide) (e.symm.trans e2)
    · exact own_ne h.row h.dk.head (by decide) (e ▸ e2)
    · exact own_ne h.dk.l h.tab (by decide) (e2 ▸ e)
    · exact own_ne_own h.row h.dk.l (by decide) e2 e
    · simp [Value.ownBlock] at e
    · simp [Value.ownBlock] at e
  · have hrows : mrows (upd T K (some x)) (updV V K v) (K + 1) = mrows T V K ++ c := by
      rw [mrows_succ, hc, mrows_congr (T := T) (T' := upd T K (some x)) (V := V) (V' := updV V K v) (fun i hi => ⟨upd_other _ _ _ (by omega), if_neg (by omega)⟩)]
    rw [hrows]
    exact (ho.set (a := ⟨tm, 1, none⟩) (by rintro (e | e); exact hrt e; have := h.tab.lt; simp at e; omega) _).mono (fun _ _ => trivial)
  · by_cases e : i = K
    · subst e
      rw [upd_same] at hy
      cases hy
      rw [show updV V i v i = v from if_pos rfl]
      exact hint _ _ _ hv
    · rw [upd_other _ _ _ e] at hy
      rw [show updV V K v i = V i from if_neg e]
      exact hint _ _ _ (h.bl i y hy)
theorem rneed_nat (n : Nat) (w : World) (h : n ≤ 2000) : Calls Tryz.prog 60 #[.int .i64 (n : Int)] w fun e w' => e = .returned (.int .i64 ((needN n : Nat) : Int)) ∧ w = w' := by
  refine (needOf_any (n : Int) w (by omega) (by omega)).mono ?_
  rintro e w' ⟨rfl, rfl⟩
  refine ⟨?_, rfl⟩
  rw [need_eq]
  have : (if (n : Int) < 1 then 0 else ((n : Int) - 1) / 16 + 1) = ((needN n : Nat) : Int) := by
    unfold needN
    by_cases h1 : n < 1
    · rw [if_pos (by omega), if_pos h1]; rfl
    · rw [if_neg (by omega), if_neg h1]; omega
  rw [this]

set_option maxRecDepth 100000 in
set_option maxHeartbeats 4000000 in
theorem rmake_big (tm : Nat) (data : ByteArray) (ex : Bool) (w : World) (h : 2000 < data.size) :
    Calls Tryz.prog 38 #[.pointer (some ⟨tm, 0, none⟩), .string data, .bool ex] w fun e w' => e = .returned (.tuple #[.int .i64 0, .int .i64 2]) ∧ w = w' := by
  have q : (2000 : Int) < (data.size : Int) := by omega
  go_enter Tryz.func38, Tryz.ntmps38
  go_wp2_with fail
  go_ret2
  exact ⟨rfl, rfl⟩
set_option maxRecDepth 100000 in
set_option maxHeartbeats 4000000 in
theorem rmake_full (w : World) (tm q : Nat) (lv rv : Value) (K : Nat) (T : Nat → Option Ino) (V : Nat → Value) (ls : List ByteArray) (h : MdAt w tm q lv rv K T V ls) (hl5 : ls.length ≤ 512) (data : ByteArray) (ex : Bool) (hd : data.size ≤ 2000) (hf : (frK T K ls.length).length < needN data.size) :
    Calls Tryz.prog 38 #[.pointer (some ⟨tm, 0, none⟩), .string data, .bool ex] w fun e w' => e = .returned (.tuple #[.int .i64 0, .int .i64 8]) ∧ Below w.heap.size w w' := by
  have q0 : ¬ (2000 : Int) < (data.size : Int) := by omega
  have HF := hidd (rfree_any w tm q lv rv K T V ls h hl5)
  have q1 : ((frK T K ls.length).length : Int) < ((needN data.size : Nat) : Int) := by omega
  have HN := hidd (fun W => rneed_nat data.size W hd)
  generalize frK T K ls.length = fl at *
  generalize needN data.size = nn at *
  clear h hd hf
  go_enter Tryz.func38, Tryz.ntmps38
  go_wp2_with fail
  refine HF.out.mono ?_
  rintro e w1 ⟨fa, fc, rfl, -, hb1⟩
  clear HF
  go_wp2_with fail
  refine (HN.out w1).mono ?_
  rintro e w2 ⟨rfl, rfl⟩
  clear HN
  go_wp2_with fail
  go_ret2
  exact ⟨rfl, hb1⟩
/-- What Make does. -/
def RmPost (tm q : Nat) (lv rv : Value) (K : Nat) (T : Nat → Option Ino) (ls : List ByteArray) (k0 : Nat) (x : Ino) (w : World) (e : Ending) (w' : World) : Prop :=
  ∃ (rv' : Value) (K' : Nat) (V' : Nat → Value), e = .returned (.tuple #[.int .i64 (k0 : Int), .int .i64 0]) ∧ MdAt w' tm q lv rv' K' (upd T k0 (some x)) V' (lsN ls x.bl x.data x.bl.length) ∧ K' ≤ K + 1 ∧
    (∀ b, rv'.ownBlock = some b → rv.ownBlock = some b ∨ w.heap.size ≤ b) ∧ Fr (mdS tm q lv rv) w w'
set_option maxRecDepth 100000 in
set_option maxHeartbeats 8000000 in
theorem rmake_ok (w : World) (tm q : Nat) (lv rv : Value) (K : Nat) (T : Nat → Option Ino) (V : Nat → Value) (ls : List ByteArray) (h : MdAt w tm q lv rv K T V ls) (hl5 : ls.length ≤ 512) (hK : K < 1000000) (k0 : Nat) (x : Ino) (hd : x.data.size ≤ 2000) (hf : needN x.data.size ≤ (frK T K ls.length).length) (hbl : x.bl = (frK T K ls.length).take (needN x.data.size)) (hln : x.links = 1) (hk0 : T k0 = none) (hkl : ∀ j, j < k0 → ∃ y, T j = some y) (hpos : 0 < ls.length) :
    Calls Tryz.prog 38 #[.pointer (some ⟨tm, 0, none⟩), .string x.data, .bool x.exec] w (RmPost tm q lv rv K T ls k0 x w) := by
  obtain ⟨ra, rc, rfl⟩ := h.shape
  have q0 : ¬ (2000 : Int) < (x.data.size : Int) := by omega
  have HF := hidd (rfree_any w tm q lv _ K T V ls h hl5)
  have hmem : ∀ b ∈ frK T K ls.length, b < ls.length := fun b hb => by
    unfold frK at hb
    exact List.mem_range.1 (List.mem_filter.1 hb).1
  have HN := hidd (fun W => rneed_nat x.data.size W hd)
  have hkK : k0 ≤ K := by
    by_cases hlt : k0 ≤ K
    · exact hlt
    · obtain ⟨y, hy⟩ := hkl K (by omega)
      rw [h.fin K (Nat.le_refl _)] at hy
      cases hy
  obtain ⟨nn, hnn⟩ : ∃ nn, needN x.data.size = nn := ⟨_, rfl⟩
  rw [hnn] at hf hbl HN
  generalize frK T K ls.length = fl at *
  have hbll : x.bl.length = nn := by rw [hbl, List.length_take]; omega
  have q1 : ¬ (fl.length : Int) < (nn : Int) := by omega
  have HH := hidd h
  have HBL := hidd hbl
  have HBLL := hidd hbll
  have HMEM := hidd hmem
  have HNN := hidd hnn
  clear h hbl hmem hbll hnn
  go_enter Tryz.func38, Tryz.ntmps38
  go_wp2_with fail
  refine HF.out.mono ?_
  rintro e w1 ⟨fa, fc, rfl, how, hb1⟩
  clear HF
  have hm1 := HH.out.ob hb1
  have hcl : fl.length ≤ fc := by
    obtain ⟨_, _, he, _, h2, _⟩ := how.sl
    simp only [Value.slice.injEq] at he
    omega
  have htk := how.takeN hf
  rw [← HBL.out] at htk
  have r1 : (0 : Int) ≤ (nn : Int) := by omega
  have r2 : (nn : Int) ≤ (fc : Int) := by omega
  obtain ⟨fb, hfb⟩ : ∃ fb, fb = w1.heap.size := ⟨_, rfl⟩
  have hdl := hm1.dk.lt
  have hnd : ∀ k, (Value.slice fa nn fc).ownBlock = some k → ¬ (k = q ∨ lv.ownBlock = some k) := fun k hk e => by
    have hg := (how.blk k (by cases fa <;> exact hk)).1
    rcases e with e | e
    · have := HH.out.dk.head.lt; omega
    · have := HH.out.dk.lt k (.inr (.inl e)); omega
  have htq : ¬ (tm = q ∨ lv.ownBlock = some tm) := by
    rintro (e | e)
    · exact blk_ne hm1.tab hm1.dk.head (by decide) e
    · exact own_ne hm1.dk.l hm1.tab (by decide) e
  have hwr := rwrite_ok tm q lv (.slice fa nn fc) x.bl x.data ls w1 hm1.c0 hm1.dk (by have := htk.sl; exact this) hnd (fun b hb => HMEM.out b (by rw [HBL.out] at hb; exact List.mem_of_mem_take hb)) (by rw [HBLL.out, HNN.out]) hd htq hpos
  have HWR := hidd hwr
  have HM1 := hidd hm1
  have HOW := hidd how
  have HTK := hidd htk
  have HB1 := hidd hb1
  clear hwr hm1 how htk hb1 hnd htq hdl hfb
  go_wp2_with fail
  refine (HN.out w1).mono ?_
  rintro e w2 ⟨rfl, rfl⟩
  clear HN
  go_wp2_with fail
  refine HWR.out.mono ?_
  rintro e w2 ⟨⟨u, rfl⟩, hdk2, hf2⟩
  clear HWR
  have HCR := hidd (fun W => rcrc_any x.data W (by omega))
  go_upto_region 8 with fail
  have hfr2 : Fr (mdS tm q lv (.slice ra K rc)) w w2 := (Fr.ob HB1.out).trans (hf2.mono (fun i _ hi => by rcases hi with h | h; exact .inr (.inl h); exact .inr (.inr (.inl h))))
  have htab2 := HM1.out.tab.fr hf2 (by
    rintro (e | e)
    · exact blk_ne HM1.out.tab HM1.out.dk.head (by decide) e
    · exact own_ne HM1.out.dk.l HM1.out.tab (by decide) e)
  have hrow2 := HM1.out.row.fr hf2 (by
    rintro g hg (e | e)
    · exact own_ne HM1.out.row HM1.out.dk.head (by decide) (e ▸ hg)
    · exact own_ne_own HM1.out.row HM1.out.dk.l (by decide) hg e)
  go_region_with (first
    | (go_at_call 62; refine (HCR.out _).mono ?_; rintro e w9 ⟨rfl, rfl⟩))
  all_goals
    have hm2 : MdAt w2 tm q lv (.slice ra K rc) K T V (lsN ls x.bl x.data x.bl.length) := ⟨htab2, hdk2, hrow2, fun k y hy => (HM1.out.bl k y hy).fr hf2 (by
      rintro g hg (e | e)
      · exact own_ne (HM1.out.bl k y hy) HM1.out.dk.head (by decide) (e ▸ hg)
      · exact own_ne_own (HM1.out.bl k y hy) HM1.out.dk.l (by decide) hg e), HM1.out.fin, HM1.out.few⟩
    have hb23 : Below w2.heap.size w2 (w2.alloc (.cells #[.bool true, .int .i64 (x.data.size : Int), .int .i64 1, .bool x.exec, .slice fa nn fc, .int .i64 ((crc x.data.data.toList : Nat) : Int)] 104)).drew := ((Below.refl _ _).alloc (Nat.le_refl _) _).drew
    have hm3 := hm2.ob hb23
    have hxb : Blk (w2.alloc (.cells #[.bool true, .int .i64 (x.data.size : Int), .int .i64 1, .bool x.exec, .slice fa nn fc, .int .i64 ((crc x.data.data.toList : Nat) : Int)] 104)).drew w2.heap.size [.bool true, .int .i64 (x.data.size : Int), .int .i64 1, .bool x.exec, .slice fa nn fc, .int .i64 ((crc x.data.data.toList : Nat) : Int)] 104 := Blk.new w2 _ _
    have hvn := ((HTK.out.fr hf2 (by
      rintro g hg (e | e)
      · exact own_ne HTK.out HM1.out.dk.head (by decide) (e ▸ hg)
      · exact own_ne_own HTK.out HM1.out.dk.l (by decide) hg e)).mono (fun _ _ => trivial)).ob hb23
    have hfr3 := hfr2.trans (Fr.ob hb23)
    generalize hls : lsN ls x.bl x.data x.bl.length = ls2 at *
    go_upto_region 9 with fail
    obtain ⟨xb, hxe⟩ : ∃ xb, w2.heap.size = xb := ⟨_, rfl⟩
    rw [hxe] at hxb ⊢
    generalize (w2.alloc (.cells #[.bool true, .int .i64 (x.data.size : Int), .int .i64 1, .bool x.exec, .slice fa nn fc, .int .i64 ((crc x.data.data.toList : Nat) : Int)] 104)).drew = w3 at *
    have HM3 := hidd hm3
    have HXB := hidd hxb
    have HVN := hidd hvn
    have HFR3 := hidd hfr3
    have HXS := hidd (show w.heap.size ≤ xb by rw [← hxe]; exact hfr2.size)
    have HLS := hidd hls
    have c1 := hm3.c1
    clear hm2 hm3 hb23 hxb hvn hfr3 hfr2 htab2 hrow2 hdk2 hf2 HM1 HOW HTK HB1 HCR hls hxe HMEM
    go_wp2_with fail
    go_loop [11] (fun i => ∃ j : Nat, j ≤ k0 ∧ i = .int .i64 (j : Int)) (fun i => k0 - (intOf i).toNat)
    case atStart => exact ⟨0, Nat.zero_le _, rfl⟩
    case round =>
      obtain ⟨j, hj, rfl⟩ := hrel
      by_cases hlt : j < k0
      · obtain ⟨y, hy⟩ := hkl j hlt
        obtain ⟨g, off, rfl, hc⟩ := HM3.out.at (k := j) (by omega)
        have d0 := hc 0 (by omega) _ (mcell_is T V j)
        rw [Nat.add_zero, hy, Option.isSome_some] at d0
        have p1 : (0 : Int) ≤ (j : Int) := by omega
        have p2 : (j : Int) < (K : Int) := by omega
        clear hc hy
        go_wp2_with fail
        go_round
        case rel => exact ⟨j + 1, hlt, by go_num⟩
        case measure => simp [intOf]; omega
      · have hjk : j = k0 := by omega
        subst hjk
        by_cases hlt2 : j < K
        · obtain ⟨g, off, rfl, hc⟩ := HM3.out.at (k := j) hlt2
          have d0 := hc 0 (by omega) _ (mcell_is T V j)
          rw [Nat.add_zero, hk0, Option.isSome_none] at d0
          have p1 : (0 : Int) ≤ (j : Int) := by omega
          have p2 : (j : Int) < (K : Int) := by omega
          have hmn := mcell_none hk0 V
          have o1 := hc 1 (by omega) (.int .i64 0) (by rw [hmn]; rfl)
          have o2 := hc 2 (by omega) (.int .i64 0) (by rw [hmn]; rfl)
          have o3 := hc 3 (by omega) (.bool false) (by rw [hmn]; rfl)
          have o4 := hc 4 (by omega) (.slice none 0 0) (by rw [hmn]; rfl)
          have o5 := hc 5 (by omega) (.int .i64 0) (by rw [hmn]; rfl)
          have x0 := HXB.out.cell (i := 0) rfl
          have x1 := HXB.out.cell (i := 1) rfl
          have x2 := HXB.out.cell (i := 2) rfl
          have x3 := HXB.out.cell (i := 3) rfl
          have x4 := HXB.out.cell (i := 4) rfl
          have x5 := HXB.out.cell (i := 5) rfl
          have z0 := HM3.out.row.frozen (by omega) (off + j * 6)
          have z1 := HM3.out.row.frozen (by omega) (off + j * 6 + 1)
          have z2 := HM3.out.row.frozen (by omega) (off + j * 6 + 2)
          have z3 := HM3.out.row.frozen (by omega) (off + j * 6 + 3)
          have z4 := HM3.out.row.frozen (by omega) (off + j * 6 + 4)
          have z5 := HM3.out.row.frozen (by omega) (off + j * 6 + 5)
          clear hc hmn
          go_upto_region 13 with fail
          go_region
          all_goals
            have hput := HM3.out.put hlt2 (some x) (.slice fa nn fc) (c0 := .bool true) (c1 := .int .i64 (x.data.size : Int)) (c2 := .int .i64 1) (c3 := .bool x.exec) (c4 := .slice fa nn fc) (c5 := .int .i64 ((crc x.data.data.toList : Nat) : Int)) (by rw [mcell_some (upd_same _ _ _), hln, show updV V j (.slice fa nn fc) j = .slice fa nn fc from if_pos rfl]; rfl) (fun y hy => by cases hy; exact HVN.out)
            have hfrp := put6_fr w3 g (off + j * 6) (.bool true) (.int .i64 (x.data.size : Int)) (.int .i64 1) (.bool x.exec) (.slice fa nn fc) (.int .i64 ((crc x.data.data.toList : Nat) : Int))
            have HP := hidd (show RmPost tm q lv (.slice (some ⟨g, off, none⟩) K rc) K T ls j x w (.returned (.tuple #[.int .i64 (j : Int), .int .i64 0])) (put6 w3 g (off + j * 6) (.bool true) (.int .i64 (x.data.size : Int)) (.int .i64 1) (.bool x.exec) (.slice fa nn fc) (.int .i64 ((crc x.data.data.toList : Nat) : Int))).drew from
              ⟨_, K, _, rfl, by rw [show lsN ls x.bl x.data x.bl.length = ls2 from HLS.out]; exact hput.ob ((Below.refl _ _).drew), by omega, fun b hb => .inl hb, (HFR3.out.trans' hfrp (fun _ _ h => h) (fun i _ hi => .inr (.inr (.inr (by rw [hi]; rfl))))).drew⟩)
            clear hput hfrp o1 o2 o3 o4 o5 x0 x1 x2 x3 x4 x5 z0 z1 z2 z3 z4 z5 d0
            go_wp2_with fail
            go_ret2
            exact HP.out
        · have hjK : j = K := by omega
          subst hjK
          have p2 : ¬ (j : Int) < (j : Int) := by omega
          obtain ⟨i0, hi, hz0, hz1, hz2⟩ := info_parts infoIn
          have x0 := HXB.out.cell (i := 0) rfl
          have x1 := HXB.out.cell (i := 1) rfl
          have x2 := HXB.out.cell (i := 2) rfl
          have x3 := HXB.out.cell (i := 3) rfl
          have x4 := HXB.out.cell (i := 4) rfl
          have x5 := HXB.out.cell (i := 5) rfl
          have hntm : (Value.slice ra j rc).ownBlock ≠ some tm := own_ne HM3.out.row HM3.out.tab (by decide)
          have hown := (HM3.out.row.slf w3.heap.size).ob ((Below.refl w3.heap.size w3).drew)
          have htl := HM3.out.tab.lt
          have hs1 := Src.new (P := Tryz.prog) (size := 6) (tx := 59) Tryz.underlying59 w3.drew w3.heap.size rfl [.bool true, .int .i64 (x.data.size : Int), .int .i64 1, .bool x.exec, .slice fa nn fc, .int .i64 ((crc x.data.data.toList : Nat) : Int)] 104 rfl (by intro u hu; simp only [List.mem_cons, List.not_mem_nil, or_false] at hu; rcases hu with rfl | rfl | rfl | rfl | rfl | rfl <;> rfl) 1
          have HB4 : Hid (∀ w4, (w3.drew.alloc (.cells [.bool true, .int .i64 (x.data.size : Int), .int .i64 1, .bool x.exec, .slice fa nn fc, .int .i64 ((crc x.data.data.toList : Nat) : Int)].toArray 104)).grownBy w4 (Value.slice ra j rc).ownBlock → Blk w4 tm [.pointer (some ⟨q, 0, none⟩), .slice ra j rc] 61) :=
            hidd (fun w4 hg => (HM3.out.tab.drew.alloc _).grown hg (fun e => hntm e.symm))
          have c1' : w3.drew.cell? ⟨tm, 1, none⟩ = some (.slice ra j rc) := c1
          have y0 : w3.drew.cell? ⟨xb, 0, none⟩ = _ := x0
          have y1 : w3.drew.cell? ⟨xb, 1, none⟩ = _ := x1
          have y2 : w3.drew.cell? ⟨xb, 2, none⟩ = _ := x2
          have y3 : w3.drew.cell? ⟨xb, 3, none⟩ = _ := x3
          have y4 : w3.drew.cell? ⟨xb, 4, none⟩ = _ := x4
          have y5 : w3.drew.cell? ⟨xb, 5, none⟩ = _ := x5
          clear hntm
          go_upto_region 15 with fail
          go_region_law (first
            | (refine step_append_ow rfl (.tmp 69) (.tmp 71) 59 59 rfl (fun g => (Value.slice ra j rc).ownBlock = some g ∨ w3.heap.size ≤ g) (fun g hg => .inr (by simp at hg; omega)) 104 i0 _ 6 64 Tryz.underlying59 hi hz0 hz1 hz2 rfl (by decide) _ _ _ (by simp [Act.eval]) (hown.alloc _) _ _ _ (by simp [Act.eval]) hs1 (by unfold maxLen; omega) (by omega) ?_; intro v' w4 hown' hgrow; obtain ⟨a', cap', hv'⟩ := hown'.shape; subst hv'; have hb4 := HB4.out _ hgrow; have hc4 := hb4.cell (i := 1) (v := .slice ra j rc) rfl; have hf4 := hb4.frozen 1))
          all_goals
            have hfr4 : Fr (fun b => (Value.slice ra j rc).ownBlock = some b) w3 w4 := by
              first
                | exact (((Fr.refl _ w3).drew).alloc _).grown hgrow (fun k hk => .inl hk)
                | exact (((Fr.refl _ w3).alloc _).drew).grown hgrow (fun k hk => .inl hk)
            obtain ⟨happ, hfr5⟩ := HM3.out.app hK hfr4 hown' x (.slice fa nn fc) (by rw [mcell_some (upd_same _ _ _), hln, show updV V j (.slice fa nn fc) j = .slice fa nn fc from if_pos rfl]; rfl) HVN.out hb4
            have hblk := hown'.blk
            have e5 := happ.c1
            have HP := hidd (show RmPost tm q lv (.slice ra j rc) j T ls j x w (.returned (.tuple #[.int .i64 (j : Int), .int .i64 0])) (w4.setCell ⟨tm, 1, none⟩ (.slice a' (j + 1) cap')) from
              ⟨_, j + 1, _, rfl, by rw [show lsN ls x.bl x.data x.bl.length = ls2 from HLS.out]; exact happ, by omega, fun b hb => (hblk b hb).1.elim .inl (fun h => .inr (Nat.le_trans HFR3.out.size h)), HFR3.out.trans' hfr5 (fun _ _ h => h) (fun i _ hi => by rcases hi with h | h; exact .inl h; exact .inr (.inr (.inr h)))⟩)
            have p3 : ((j + 1 : Nat) : Int) - 1 = (j : Int) := by omega
            clear happ hfr5 hfr4 hown' hgrow hb4 hblk hown hs1 x0 x1 x2 x3 x4 x5 y0 y1 y2 y3 y4 y5 hc4 hf4
            generalize w4.setCell ⟨tm, 1, none⟩ (.slice a' (j + 1) cap') = w5 at *
            go_wp2_with fail
            go_ret2
            exact HP.out
end Go.Proofs.YtcpilhembdphoaaGreatDoor
