/- The contracts of the reference's ItemsOf, CountOf, SizeOf and FilesOf. Condition: the tree is there. -/
import Derived.Test.YtccplkbbaodpeaaDoorRfT
namespace Go.Proofs.YtccplkbbaodpeaaDoor
open Go.RowKit Go.Shelf

mutual
theorem pre_ok {w : World} (p : ByteArray) (d : Nat) : ∀ t : Lt, t.Ok w → ∀ x ∈ pre p d t, x.n.Ok w
  | .mk k da e v ks => fun h x hx => by
    rw [pre] at hx
    rcases List.mem_cons.1 hx with rfl | hx
    · exact h
    · rw [Tr.Ok] at h; exact pres_ok p (d + 1) ks h.2.2 x hx
theorem pres_ok {w : World} (p : ByteArray) (d : Nat) : ∀ ks : List (ByteArray × Lt), Oks w ks → ∀ x ∈ pres p d ks, x.n.Ok w
  | [] => fun _ x hx => by simp [pres] at hx
  | (n, t) :: r => fun h x hx => by
    rw [pres] at hx
    rw [Oks] at h
    rcases List.mem_append.1 hx with hx | hx
    · exact pre_ok (sub p n) d t h.1 x hx
    · exact pres_ok p d r h.2 x hx
end
/-- Items, the first i of them mended. -/
def mended {α : Type} (L : List (It α)) (i : Nat) : List (It α) := (L.take i).map It.fix ++ L.drop i
theorem mended_len {α : Type} (L : List (It α)) (i : Nat) : (mended L i).length = L.length := by
  unfold mended; rw [List.length_append, List.length_map, List.length_take, List.length_drop]; omega
theorem mended_at {α : Type} {L : List (It α)} {i : Nat} (h : i < L.length) : mended L i = (L.take i).map It.fix ++ L[i] :: L.drop (i + 1) := by
  unfold mended; rw [List.getElem_cons_drop]
theorem mended_succ {α : Type} {L : List (It α)} {i : Nat} (h : i < L.length) : mended L (i + 1) = (L.take i).map It.fix ++ It.fix L[i] :: L.drop (i + 1) := by
  unfold mended; rw [List.take_succ_eq_append_getElem h, List.map_append, List.append_assoc]; rfl
theorem mended_get {α : Type} {L : List (It α)} {i : Nat} (h : i < L.length) (h' : i < (mended L i).length) : (mended L i)[i] = L[i] := by
  have e := mended_at h
  have hl : ((L.take i).map It.fix).length = i := by rw [List.length_map, List.length_take]; omega
  have : (mended L i)[i]? = some L[i] := by
    rw [e, List.getElem?_append_right (by omega), hl, Nat.sub_self]; rfl
  rw [List.getElem?_eq_getElem h'] at this
  exact Option.some.inj this
theorem fixP_nil {p : ByteArray} (h : (p.toList == []) = true) : fixP p = ⟨#[47]⟩ := if_pos h
theorem fixP_cons {p : ByteArray} (h : (p.toList == []) = false) : fixP p = p := if_neg (by rw [h]; decide)

/-- What ItemsOf gives. -/
def ItemP (L : List (It Value)) (w : World) (e : Ending) (w' : World) : Prop :=
  ∃ v, e = .returned v ∧ Ow (fun g => w.heap.size ≤ g) w' 48 6 v L.length (itcells L) ∧ Below w.heap.size w w'

set_option maxRecDepth 100000 in
set_option maxHeartbeats 40000000 in
theorem items_any (t : Lt) (w : World) (ht : t.Ok w) (h0 : treeE t = 0) : Calls Tryd.prog 35 #[nval t] w (ItemP (itemsOf t) w) := by
  obtain ⟨a, cap, hv⟩ := ht.shape
  have hB0 : Below w.heap.size w (w.alloc (.cells #[.string t.kind, .string t.data, .bool t.exec, .slice a t.kids.length cap] 24)) := (Below.refl _ _).alloc (Nat.le_refl _) _
  have hC := listOf_any t 200 8 _ (ht.ob hB0) (by omega) (by omega)
  rw [listOf_right t h0] at hC
  unfold itemsOf
  obtain ⟨L, hL⟩ : ∃ L, pre ⟨#[]⟩ 0 t = L := ⟨_, rfl⟩
  rw [hL] at hC ⊢
  unfold nval at hC ⊢
  rw [hv] at hC ⊢
  have HC := hidd hC
  clear hC hv ht hL h0
  go_enter Tryd.func35, Tryd.ntmps35
  go_wp2_with fail
  refine HC.out.mono ?_
  rintro e w2 ⟨v, rfl, hmany, hown, hok, hb2⟩
  have hB2 := hB0.trans (hb2.mono hB0.size)
  have hown2 := hown.mono (F' := fun g => w.heap.size ≤ g) (fun g hg => by simp at hg; omega)
  obtain ⟨va, vc, rfl⟩ := hown.shape
  clear hb2 HC hB0 hok hown
  go_wp2_with fail
  go_loopw [4] (fun s wr => ∃ i : Nat, i ≤ L.length ∧ s = .int .i64 (i : Int) ∧ Ow (fun g => w.heap.size ≤ g) wr 48 6 (.slice va L.length vc) L.length (itcells (mended L i)) ∧ Below w.heap.size w wr) (fun s _ => L.length - (intOf s).toNat)
  case atStart => exact ⟨0, Nat.zero_le _, rfl, hown2, hB2⟩
  case round =>
    obtain ⟨i, hi, rfl, hown, hBr⟩ := hrel
    clear hown2
    by_cases hlt : i < L.length
    · have hsl := hown.sl
      obtain ⟨b, off, rfl, hb, c0, -⟩ := sl_at6 (l := mended L i) hsl (i := i) (by rw [mended_len]; exact hlt)
      rw [mended_get hlt] at c0
      have hge := (hown.blk b rfl).1
      have hfz := hown.frozen (off + i * 6)
      have hma := mended_at hlt
      have hms := mended_succ hlt
      have hli : ((L.take i).map It.fix).length = i := by rw [List.length_map, List.length_take]; omega
      have hln := itcells_len (mended L i)
      rw [mended_len] at hln
      have p1 : (0 : Int) ≤ (i : Int) := by omega
      have p2 : (i : Int) < (L.length : Int) := by omega
      generalize L[i] = x at *
      obtain ⟨px, dx, nx⟩ := x
      simp only at c0
      cases hp : (px.toList == [])
      · have HN : Hid (Ow (fun g => w.heap.size ≤ g) wr 48 6 (.slice (some ⟨b, off, none⟩) L.length vc) L.length (itcells (mended L (i + 1)))) := hidd (by
          rw [hms, show It.fix ⟨px, dx, nx⟩ = ⟨px, dx, nx⟩ by unfold It.fix; simp only [fixP_cons hp], ← hma]; exact hown)
        clear hown hsl hma hms hfz
        go_wp2_with fail
        go_roundw
        case rel => exact ⟨i + 1, hlt, by go_num, HN.out, hBr⟩
        case measure => simp [intOf]; omega
      · have HN : Hid (Ow (fun g => w.heap.size ≤ g) (wr.setCell ⟨b, off + i * 6, none⟩ (.string ⟨#[47]⟩)) 48 6 (.slice (some ⟨b, off, none⟩) L.length vc) L.length (itcells (mended L (i + 1)))) := hidd (by
          have := hown.put (j := i * 6) (by rw [hln]; omega) (.string ⟨#[47]⟩)
          rw [hms, show It.fix ⟨px, dx, nx⟩ = ⟨⟨#[47]⟩, dx, nx⟩ by unfold It.fix; simp only [fixP_nil hp], ← itcells_set _ _ ⟨px, dx, nx⟩, hli, ← hma]
          exact this)
        have HB : Hid (Below w.heap.size w (wr.setCell ⟨b, off + i * 6, none⟩ (.string ⟨#[47]⟩))) := hidd (hBr.setCell (p := ⟨b, off + i * 6, none⟩) hge _)
        have hp' : px.toList = [] := by simpa using hp
        clear hown hsl hma hms
        go_wp2_with fail
        go_roundw
        case rel => exact ⟨i + 1, hlt, by go_num, HN.out, HB.out⟩
        case measure => simp [intOf]; omega
    · have HN : Hid (Ow (fun g => w.heap.size ≤ g) wr 48 6 (.slice va L.length vc) (L.map It.fix).length (itcells (L.map It.fix))) := hidd (by
        have e : mended L i = L.map It.fix := by unfold mended; rw [List.take_of_length_le (by omega), List.drop_of_length_le (by omega), List.append_nil]
        rw [List.length_map, ← e]; exact hown)
      clear hown
      go_wp2_with fail
      go_ret
      exact ⟨_, rfl, HN.out, hBr⟩
end Go.Proofs.YtccplkbbaodpeaaDoor
