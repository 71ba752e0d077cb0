/- The contracts of slices.ContainsFunc over texts, and of refs.check. Condition: the packs are there, the variables read as listed. -/
import Derived.Test.YtlcabkhalockpaaGreatDoorQ3
import Derived.Test.YtlcabkhalockpaaGreatDoorCode
import Derived.WalkLawsBesides
import Derived.Laws.Cover1
import Derived.Deep.Cut
namespace Go.Proofs.YtlcabkhalockpaaGreatDoor
open Go.RowKit Go.Maps

/-- An error by its number: nil, or a listed variable's value. -/
def evc (E : Nat → Addr) (c : Nat) : Value := if c = 0 then .nilIface else erv E (codeGs.getD (c - 1) 0)
theorem evc_zero (E : Nat → Addr) : evc E 0 = .nilIface := rfl
theorem evc_ne {E : Nat → Addr} {c : Nat} (h : c ≠ 0) : evc E c = .iface 159 (.pointer (some (E (codeGs.getD (c - 1) 0)))) := by
  unfold evc erv; rw [if_neg h]
theorem ret_bool2 {a b : Bool} (h : a = b) : Ending.returned (.bool a) = .returned (.bool b) := by rw [h]
theorem below_step {w0 W W' : World} (h : Below w0.heap.size w0 W) (hb : Below W.heap.size W W') : Below w0.heap.size w0 W' := h.trans (hb.mono h.size)
theorem zero_bool (w : World) : (zeroValue 4).run Tryz.prog w = .ok (.bool false) w := by kernel_rfl
/-- What IndexFunc says. -/
def IdxT (q : Bool) (w : World) (e : Ending) (w' : World) : Prop := (∃ k : Int, e = .returned (.int .i64 k) ∧ (0 ≤ k ↔ q = true)) ∧ Below w.heap.size w w'

set_option maxRecDepth 100000 in
set_option maxHeartbeats 2000000 in
theorem idx_check (g : ByteArray → Bool) (c : Value) (l : List ByteArray) (v : Value) (w : World) (h : TxI l v w)
    (hc : ∀ W s, Below w.heap.size w W → Sz s → Calls Tryz.prog 40 #[.string s, c] W fun e w' => e = .returned (.bool (g s)) ∧ Below W.heap.size W w') :
    Calls Tryz.prog 56 #[v, .func (.func 40) #[] #[c]] w (IdxT (l.any g) w) := by
  obtain ⟨a, cap, rfl⟩ := h.shape
  have hm := h.1.le
  have HC := hidd hc
  clear hc
  go_enter Tryz.func56, Tryz.ntmps56
  go_wp2_with fail
  go_loopw [8] (fun i wr => ∃ k : Nat, k ≤ l.length ∧ i = .int .i64 (k : Int) ∧ (l.take k).any g = false ∧ Below w.heap.size w wr) (fun i _ => l.length - (intOf i).toNat)
  case atStart => exact ⟨0, Nat.zero_le _, rfl, by simp, Below.refl _ _⟩
  case round =>
    obtain ⟨k, hk, rfl, hnot, hbel⟩ := hrel
    by_cases hlt : k < l.length
    · have hA := h.ob hbel
      have hsz := h.2 _ (List.getElem_mem hlt)
      obtain ⟨b1, o1, rfl, hb1, a0⟩ := hA.at hlt
      have p1 : (0 : Int) ≤ (k : Int) := by omega
      have p2 : (k : Int) < (l.length : Int) := by omega
      have hs : (l.take (k + 1)).any g = g l[k] := by
        rw [List.take_succ_eq_append_getElem hlt, List.any_append, hnot]; simp
      have hin : g l[k] = true → l.any g = true := fun h => by rw [List.any_eq_true]; exact ⟨l[k], List.getElem_mem _, h⟩
      generalize l[k] = x at *
      have HX := hidd (HC.out wr x hbel hsz)
      cases hx : g x
      · rw [hx] at hs HX
        have HS := hidd hs
        clear hs hin hx hnot hA h
        go_wp2_with fail
        refine HX.out.mono ?_
        rintro e w5 ⟨rfl, hb5⟩
        have hB5 := below_step hbel hb5
        clear a0 hb5
        go_wp2_with fail
        go_roundw
        case rel => exact ⟨k + 1, by omega, by go_num, HS.out, hB5⟩
        case measure => simp [intOf]; omega
      · rw [hx] at HX
        have HI := hidd (hin hx)
        clear hs hin hx hnot hA h
        go_wp2_with fail
        refine HX.out.mono ?_
        rintro e w5 ⟨rfl, hb5⟩
        have hB5 := below_step hbel hb5
        clear a0 hb5
        go_wp2_with fail
        go_ret
        exact ⟨⟨_, rfl, by simp [HI.out]⟩, hB5⟩
    · rw [List.take_of_length_le (by omega)] at hnot
      have HI := hidd hnot
      clear hnot h
      go_wp2_with fail
      go_ret
      exact ⟨⟨-1, rfl, by simp [HI.out]⟩, hbel⟩
theorem cf_check (g : ByteArray → Bool) (c : Value) (l : List ByteArray) (v : Value) (w : World) (h : TxI l v w) (q : Bool) (hq : l.any g = q)
    (hc : ∀ W s, Below w.heap.size w W → Sz s → Calls Tryz.prog 40 #[.string s, c] W fun e w' => e = .returned (.bool (g s)) ∧ Below W.heap.size W w') :
    Calls Tryz.prog 39 #[v, .func (.func 40) #[] #[c]] w fun e w' => e = .returned (.bool q) ∧ Below w.heap.size w w' := by
  have HC := hidd (idx_check g c l v w h hc)
  rw [hq] at HC
  obtain ⟨a, cap, rfl⟩ := h.shape
  clear hq h hc
  cases q
  · go_enter Tryz.func39, Tryz.ntmps39
    go_wp2_with fail
    refine HC.out.mono ?_
    rintro e w' ⟨⟨k, rfl, hk⟩, hb⟩
    have hk0 : ¬ 0 ≤ k := fun h0 => by have := hk.1 h0; cases this
    clear hk
    go_wp2_with fail
    go_ret
    exact ⟨ret_bool2 (by simp; omega), hb⟩
  · go_enter Tryz.func39, Tryz.ntmps39
    go_wp2_with fail
    refine HC.out.mono ?_
    rintro e w' ⟨⟨k, rfl, hk⟩, hb⟩
    have hk0 : 0 ≤ k := hk.2 rfl
    clear hk
    go_wp2_with fail
    go_ret
    exact ⟨ret_bool2 (by simp), hb⟩
set_option maxRecDepth 100000 in
set_option maxHeartbeats 2000000 in
theorem idx_byName (g : ByteArray → Bool) (c : Value) (l : List ByteArray) (v : Value) (w : World) (h : TxI l v w)
    (hc : ∀ W s, Below w.heap.size w W → Sz s → Calls Tryz.prog 43 #[.string s, c] W fun e w' => e = .returned (.bool (g s)) ∧ Below W.heap.size W w') :
    Calls Tryz.prog 56 #[v, .func (.func 43) #[] #[c]] w (IdxT (l.any g) w) := by
  obtain ⟨a, cap, rfl⟩ := h.shape
  have hm := h.1.le
  have HC := hidd hc
  clear hc
  go_enter Tryz.func56, Tryz.ntmps56
  go_wp2_with fail
  go_loopw [8] (fun i wr => ∃ k : Nat, k ≤ l.length ∧ i = .int .i64 (k : Int) ∧ (l.take k).any g = false ∧ Below w.heap.size w wr) (fun i _ => l.length - (intOf i).toNat)
  case atStart => exact ⟨0, Nat.zero_le _, rfl, by simp, Below.refl _ _⟩
  case round =>
    obtain ⟨k, hk, rfl, hnot, hbel⟩ := hrel
    by_cases hlt : k < l.length
    · have hA := h.ob hbel
      have hsz := h.2 _ (List.getElem_mem hlt)
      obtain ⟨b1, o1, rfl, hb1, a0⟩ := hA.at hlt
      have p1 : (0 : Int) ≤ (k : Int) := by omega
      have p2 : (k : Int) < (l.length : Int) := by omega
      have hs : (l.take (k + 1)).any g = g l[k] := by
        rw [List.take_succ_eq_append_getElem hlt, List.any_append, hnot]; simp
      have hin : g l[k] = true → l.any g = true := fun h => by rw [List.any_eq_true]; exact ⟨l[k], List.getElem_mem _, h⟩
      generalize l[k] = x at *
      have HX := hidd (HC.out wr x hbel hsz)
      cases hx : g x
      · rw [hx] at hs HX
        have HS := hidd hs
        clear hs hin hx hnot hA h
        go_wp2_with fail
        refine HX.out.mono ?_
        rintro e w5 ⟨rfl, hb5⟩
        have hB5 := below_step hbel hb5
        clear a0 hb5
        go_wp2_with fail
        go_roundw
        case rel => exact ⟨k + 1, by omega, by go_num, HS.out, hB5⟩
        case measure => simp [intOf]; omega
      · rw [hx] at HX
        have HI := hidd (hin hx)
        clear hs hin hx hnot hA h
        go_wp2_with fail
        refine HX.out.mono ?_
        rintro e w5 ⟨rfl, hb5⟩
        have hB5 := below_step hbel hb5
        clear a0 hb5
        go_wp2_with fail
        go_ret
        exact ⟨⟨_, rfl, by simp [HI.out]⟩, hB5⟩
    · rw [List.take_of_length_le (by omega)] at hnot
      have HI := hidd hnot
      clear hnot h
      go_wp2_with fail
      go_ret
      exact ⟨⟨-1, rfl, by simp [HI.out]⟩, hbel⟩
theorem cf_byName (g : ByteArray → Bool) (c : Value) (l : List ByteArray) (v : Value) (w : World) (h : TxI l v w) (q : Bool) (hq : l.any g = q)
    (hc : ∀ W s, Below w.heap.size w W → Sz s → Calls Tryz.prog 43 #[.string s, c] W fun e w' => e = .returned (.bool (g s)) ∧ Below W.heap.size W w') :
    Calls Tryz.prog 39 #[v, .func (.func 43) #[] #[c]] w fun e w' => e = .returned (.bool q) ∧ Below w.heap.size w w' := by
  have HC := hidd (idx_byName g c l v w h hc)
  rw [hq] at HC
  obtain ⟨a, cap, rfl⟩ := h.shape
  clear hq h hc
  cases q
  · go_enter Tryz.func39, Tryz.ntmps39
    go_wp2_with fail
    refine HC.out.mono ?_
    rintro e w' ⟨⟨k, rfl, hk⟩, hb⟩
    have hk0 : ¬ 0 ≤ k := fun h0 => by have := hk.1 h0; cases this
    clear hk
    go_wp2_with fail
    go_ret
    exact ⟨ret_bool2 (by simp; omega), hb⟩
  · go_enter Tryz.func39, Tryz.ntmps39
    go_wp2_with fail
    refine HC.out.mono ?_
    rintro e w' ⟨⟨k, rfl, hk⟩, hb⟩
    have hk0 : 0 ≤ k := hk.2 rfl
    clear hk
    go_wp2_with fail
    go_ret
    exact ⟨ret_bool2 (by simp), hb⟩

/-- The values of a set. -/
def bvals : List Value := [.bool false, .bool true]
/-- A set of texts, as a map. -/
def setF (l : List ByteArray) (s : ByteArray) : Option Value := if inB s l = true then some (.bool true) else none
theorem setF_get (l : List ByteArray) (s : ByteArray) : (setF l s).getD (.bool false) = .bool (inB s l) := by
  unfold setF
  cases h : inB s l <;> rfl
theorem setF_add (l : List ByteArray) (s : ByteArray) : (fun i => if i = s then some (.bool true) else setF l i) = setF (s :: l) := by
  funext i
  unfold setF
  by_cases h : i = s
  · subst h; simp [inB]
  · rw [if_neg h]
    have : inB i (s :: l) = inB i l := by simp [inB, Ne.symm h]
    rw [this]
theorem setF_nil : (fun _ => none : ByteArray → Option Value) = setF [] := by funext i; simp [setF, inB]

set_option maxRecDepth 100000 in
set_option maxHeartbeats 2000000 in
/-- refs.check's closure: is a text none of the map's? -/
theorem chk_cl (b m n : Nat) (l : List ByteArray) (s : ByteArray) (w : World) (hb : Blk w b [.map (some m)] 64) (hm : MapS bvals w m n (setF l)) (hs : Sz s) :
    Calls Tryz.prog 40 #[.string s, .pointer (some ⟨b, 0, none⟩)] w fun e w' => e = .returned (.bool (!inB s l)) ∧ Below w.heap.size w w' := by
  have hl := hm.look (t := 64) (e := 4) Tryz.underlying64 (zero_bool w) (by simp [bvals]) hs
  rw [setF_get] at hl
  have c0 := hb.cell (i := 0) rfl
  go_enter Tryz.func40, Tryz.ntmps40
  go_wp2_with fail
  go_ret
  exact ⟨rfl, Below.refl _ _⟩
end Go.Proofs.YtlcabkhalockpaaGreatDoor
