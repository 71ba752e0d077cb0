/- The contracts of strconv.Itoa, Atoi and strings.Cut at a colon. Condition: the library's tables and variables read as listed, sizes fit. -/
import Derived.Test.YtoaedkinlnkkhaaDoorTpN
import Derived.Test.YtoaedkinlnkkhaaDoorShelfP
import Derived.Test.YtoaedkinlnkkhaaDoorEnv
import Derived.Lib.Split
namespace Go.Proofs.YtoaedkinlnkkhaaDoor
open Go.RowKit Go.Sort

/-- What the library's functions read. -/
structure TEnv (w : World) : Prop where
  tab : Lib.TabIs Tryd.prog w "internal/strconv.uint64pow10" .u64 Lib.pow10Tab
  ml : ∃ m, w.cell? ⟨10, 0, none⟩ = some (.int .i64 m)
  sy : ∃ te pe, w.cell? ⟨16, 0, none⟩ = some (.iface te pe)
  ra : ∃ te pe, w.cell? ⟨17, 0, none⟩ = some (.iface te pe)

theorem tab_ob {w w' : World} {B : Nat} (h : Lib.TabIs Tryd.prog w "internal/strconv.uint64pow10" .u64 Lib.pow10Tab) (hb : Below B w w') (hB : w.heap.size ≤ B) : Lib.TabIs Tryd.prog w' "internal/strconv.uint64pow10" .u64 Lib.pow10Tab := by
  unfold Lib.TabIs at *
  unfold World.var? at h ⊢
  have hg : Tryd.prog.globalNamed "internal/strconv.uint64pow10" = some 11 := by kernel_rfl
  rw [hg] at h ⊢
  simp only [Option.bind_some] at h ⊢
  have hlt : 11 < w.heap.size := by
    rcases Nat.lt_or_ge 11 w.heap.size with h' | h'
    · exact h'
    · rw [Array.getElem?_eq_none h'] at h; cases h
  rw [hb.block _ (by omega)]
  exact h
theorem TEnv.ob {w w' : World} {B : Nat} (h : TEnv w) (hb : Below B w w') (hB : w.heap.size ≤ B) : TEnv w' where
  tab := tab_ob h.tab hb hB
  ml := by
    obtain ⟨m, hm⟩ := h.ml
    exact ⟨m, by rw [hb.cell (Nat.lt_of_lt_of_le (World.block_lt_of_cell? w _ hm) hB)]; exact hm⟩
  sy := by
    obtain ⟨m, p, hm⟩ := h.sy
    exact ⟨m, p, by rw [hb.cell (Nat.lt_of_lt_of_le (World.block_lt_of_cell? w _ hm) hB)]; exact hm⟩
  ra := by
    obtain ⟨m, p, hm⟩ := h.ra
    exact ⟨m, p, by rw [hb.cell (Nat.lt_of_lt_of_le (World.block_lt_of_cell? w _ hm) hB)]; exact hm⟩
theorem TEnv.low {w0 w : World} (h : TEnv w0) (hb : Below w0.heap.size w0 w) : TEnv w := h.ob hb (Nat.le_refl _)

theorem below_gr (w : World) (k : Nat) (os : Array Obj) : Below w.heap.size w (grow (w.drewN k) os) :=
  ⟨rfl, rfl, rfl, by simp [grow, World.drewN, -World.drew_eq], fun j hj => by
    show (w.heap ++ os)[j]? = w.heap[j]?
    rw [Array.getElem?_append_left hj]⟩

/-- strconv.Itoa. -/
theorem itoa_any (n : Int) (w : World) (h0 : -9223372036854775808 ≤ n) (h1 : n ≤ 9223372036854775807) (ht : Lib.TabIs Tryd.prog w "internal/strconv.uint64pow10" .u64 Lib.pow10Tab) :
    Calls Tryd.prog 39 #[.int .i64 n] w fun e w' => e = .returned (.string ⟨(Lib.itoa n).toArray⟩) ∧ Below w.heap.size w w' :=
  (Tryd.strconv_Itoa n h0 h1 w ht).mono fun e _ ⟨he, k, os, hw⟩ => ⟨he, by rw [hw]; exact below_gr w k os⟩

theorem dec_len (n : Nat) (h : n ≤ 9999999) : (Lib.decDigits n).length ≤ 7 := by
  rw [Lib.decDigits_length]
  have : ∀ k u, u < 10 ^ (k + 1) → Lib.nDigits u ≤ k + 1 := by
    intro k
    induction k with
    | zero => intro u hu; rw [Lib.nDigits_small (by omega)]; omega
    | succ k ih =>
      intro u hu
      by_cases hu9 : u < 10
      · rw [Lib.nDigits_small hu9]; omega
      · rw [Lib.nDigits_big hu9]
        have := ih (u / 10) (by rw [Nat.pow_succ] at hu; omega)
        omega
  exact this 6 n (by omega)
theorem ret_str {a b : ByteArray} (h : a = b) : Ending.returned (.string a) = .returned (.string b) := by rw [h]

/-- strconv.Atoi, however it ends. -/
def AtoiPost (s : ByteArray) (w : World) (e : Ending) (w' : World) : Prop :=
  (∃ (v : Int) (ev : Value), e = .returned (.tuple #[.int .i64 v, ev]) ∧ -9223372036854775808 ≤ v ∧ v ≤ 9223372036854775807 ∧ ((Lib.atoiAll s.data.toList = .ok v ∧ ev = .nilIface) ∨ ((∀ u, Lib.atoiAll s.data.toList ≠ .ok u) ∧ ∃ t p, ev = .iface t p))) ∧ Below w.heap.size w w'
theorem atoi_any (s : ByteArray) (w : World) (hs : s.size ≤ 281474976710656) (hT : TEnv w) :
    Calls Tryd.prog 91 #[.string s] w (AtoiPost s w) := by
  rcases h : Lib.atoiAll s.data.toList with v | _ | _
  · refine (Tryd.strconv_Atoi_ok s (by omega) v h w).mono ?_
    rintro e w' ⟨rfl, hw⟩
    obtain ⟨b0, b1⟩ := Lib.atoiAll_bounds h
    refine ⟨⟨v, _, rfl, b0, b1, .inl ⟨h, rfl⟩⟩, ?_⟩
    rcases hw with rfl | ⟨t, rfl⟩
    · exact Below.refl _ _
    · exact Lib.bytesWorld_below _ _ _
  · obtain ⟨te, pe, hv⟩ := hT.sy
    refine Calls.mono (Any.strconv_Atoi_syntax Tryd.laysC172 s hs h _ w hv (.inr ⟨te, pe, rfl⟩)) ?_
    rintro e w' ⟨N, rfl, -, -, hb⟩
    exact ⟨⟨0, _, rfl, by omega, by omega, .inr ⟨(fun u hu => by rw [h] at hu; cases hu), _, _, rfl⟩⟩, hb⟩
  · obtain ⟨te, pe, hv⟩ := hT.ra
    obtain ⟨b0, b1⟩ := Lib.atoiSat_bounds s.data.toList
    refine (Tryd.strconv_Atoi_range s hs h _ w hv (.inr ⟨te, pe, rfl⟩)).mono ?_
    rintro e w' ⟨N, rfl, -, -, hb⟩
    exact ⟨⟨_, _, rfl, b0, b1, .inr ⟨(fun u hu => by rw [h] at hu; cases hu), _, _, rfl⟩⟩, hb⟩

/-- strings.Cut at a colon. -/
theorem cut_any (b : ByteArray) (w : World) (hs : b.size < 4294967281) (hT : TEnv w) (D R : ByteArray) (is : Bool) (hc : Lib.cut b.data.toList [58] = (D.data.toList, R.data.toList, is)) :
    Calls Tryd.prog 70 #[.string b, .string ⟨#[58]⟩] w fun e w' => e = .returned (.tuple #[.string D, .string R, .bool is]) ∧ Below w.heap.size w w' := by
  obtain ⟨m, hm⟩ := hT.ml
  refine (Tryd.strings_Cut b ⟨#[58]⟩ m w hs hm).mono ?_
  rintro e w' ⟨rfl, n, rfl⟩
  have e1 : (⟨#[58]⟩ : ByteArray).data.toList = [58] := rfl
  rw [e1, hc]
  refine ⟨?_, Below.drewN _ _ _⟩
  have f : ∀ x : ByteArray, (⟨x.data.toList.toArray⟩ : ByteArray) = x := fun x => ba_ext (by simp)
  simp only [f]

end Go.Proofs.YtoaedkinlnkkhaaDoor
