/- The contracts of the reference's CountOf, SizeOf and FilesOf. Condition: the tree is there. -/
import Derived.Test.YtccplkbbaodpeaaDoorRfI
import Derived.Test.YtccplkbbaodpeaaDoorTrU
namespace Go.Proofs.YtccplkbbaodpeaaDoor
open Go.RowKit Go.Shelf

section
variable {α β : Type}
theorem listed_map (f : α → β) (t : Tr α) : listed (t.map f) = (listed t).map (It.map f) := by
  unfold listed
  rw [treeE_map, pre_map]
  split <;> rfl
theorem fileSz_map (f : α → β) (l : List (It α)) : fileSz (l.map (It.map f)) = fileSz l := by
  unfold fileSz
  rw [List.map_map]
  congr 1
  apply List.map_congr_left
  intro x _
  show (if (x.n.map f).kind = kFile then (x.n.map f).data.size else 0) = _
  rw [Tr.kind_map, Tr.data_map]
theorem fileL_map (f : α → β) (l : List (It α)) : fileL (l.map (It.map f)) = fileL l := by
  unfold fileL
  induction l with
  | nil => rfl
  | cons x r ih =>
    rw [List.map_cons, List.filter_cons, List.filter_cons]
    have e : (It.map f x).n.kind = x.n.kind := Tr.kind_map f x.n
    rw [e]
    split
    · rw [List.map_cons, List.map_cons, ih]; rfl
    · exact ih
theorem listed_bare {a b : Tr α} (h : a.bare = b.bare) : (listed a).length = (listed b).length ∧ fileSz (listed a) = fileSz (listed b) ∧ fileL (listed a) = fileL (listed b) ∧ treeE a = treeE b := by
  have e := congrArg listed h
  unfold Tr.bare at e
  rw [listed_map, listed_map] at e
  refine ⟨?_, ?_, ?_, ?_⟩
  · have := congrArg List.length e; simpa using this
  · have := congrArg fileSz e; rwa [fileSz_map, fileSz_map] at this
  · have := congrArg fileL e; rwa [fileL_map, fileL_map] at this
  · have := congrArg treeE h; unfold Tr.bare at this; rwa [treeE_map, treeE_map] at this
end

set_option maxRecDepth 100000 in
set_option maxHeartbeats 4000000 in
theorem countOf_any (t : Lt) (w : World) (ht : t.Ok w) :
    Calls Tryd.prog 17 #[nval t] w fun e w' => e = .returned (.int .i64 ((listed t).length : Nat)) ∧ Below w.heap.size w w' := by
  obtain ⟨a, cap, hv⟩ := ht.shape
  have hB0 : Below w.heap.size w (w.alloc (.cells #[.string t.kind, .string t.data, .bool t.exec, .slice a t.kids.length cap] 24)) := (Below.refl _ _).alloc (Nat.le_refl _) _
  have hb0 := Blk.new w [.string t.kind, .string t.data, .bool t.exec, .slice a t.kids.length cap] 24
  have hT := fun W (h : t.Ok W) => treeErr_any t W h
  have hI := fun W (h : t.Ok W) (h0 : treeE t = 0) => items_any t W h h0
  have hle := itemsOf_len t
  have hll := fun h0 : treeE t = 0 => listed_len h0
  have hl0 := fun h0 : ¬ treeE t = 0 => (show listed t = [] from if_neg h0)
  have HO := hidd (ht.ob hB0)
  unfold nval at hT hI ⊢
  rw [hv] at hT hI ⊢
  have HT := hidd hT
  have HI := hidd hI
  have HLE := hidd hle
  have HLL := hidd hll
  have HL0 := hidd hl0
  clear hT hI hle hll hl0 hv ht
  obtain ⟨N, hN⟩ : ∃ N, (listed t).length = N := ⟨_, rfl⟩
  have HN := hidd hN
  rw [hN]
  clear hN
  by_cases h0 : treeE t = 0
  · have e3 : decide ((0 : Int) < ((0 : Nat) : Int)) = false := decide_eq_false (by omega)
    have HT0 := hidd (fun W h => by have := HT.out W h; rw [h0] at this; exact this)
    have HI0 := hidd (fun W h => HI.out W h h0)
    have HE := hidd (show (itemsOf t).length = N by rw [HLE.out, ← HN.out, HLL.out h0])
    clear HT HI HLE HLL HL0 h0
    obtain ⟨L, hL⟩ : ∃ L, itemsOf t = L := ⟨_, rfl⟩
    rw [hL] at HI0 HE
    clear hL
    go_enter Tryd.func17, Tryd.ntmps17
    go_wp2_with fail
    refine (HT0.out _ HO.out).mono ?_
    rintro e w2 ⟨rfl, hb2⟩
    have hk2 := hb0.below hb2 hb0.lt
    have x0 := hk2.cell (i := 0) rfl
    have x1 := hk2.cell (i := 1) rfl
    have x2 := hk2.cell (i := 2) rfl
    have x3 := hk2.cell (i := 3) rfl
    have HO2 := hidd (HO.out.ob hb2)
    have hB2 := hB0.trans (hb2.mono hB0.size)
    clear hb2 hB0 hb0 HO
    go_wp2_with fail
    refine (HI0.out _ HO2.out).mono ?_
    rintro e w3 ⟨v, rfl, ho, hb3⟩
    have hB3 := hB2.trans (hb3.mono hB2.size)
    obtain ⟨va, vc, rfl⟩ := ho.shape
    clear hb3 ho hk2 x0 x1 x2 x3
    go_wp2_with fail
    go_ret
    exact ⟨by rw [← HE.out]; rfl, hB3⟩
  · have e3 : decide ((0 : Int) < (treeE t : Int)) = true := decide_eq_true (by omega)
    have e4 : 0 < treeE t := by omega
    have HE := hidd (show N = 0 by rw [← HN.out, HL0.out h0]; rfl)
    clear HI HLE HLL HL0 HN h0
    obtain ⟨c, hc⟩ : ∃ c, treeE t = c := ⟨_, rfl⟩
    rw [hc] at HT e3 e4
    clear hc
    go_enter Tryd.func17, Tryd.ntmps17
    go_wp2_with fail
    refine (HT.out _ HO.out).mono ?_
    rintro e w2 ⟨rfl, hb2⟩
    have hB2 := hB0.trans (hb2.mono hB0.size)
    clear hb2 hB0 hb0 HO HT
    go_wp2_with fail
    go_ret
    exact ⟨by rw [HE.out]; rfl, hB2⟩

/-- The sum of files, the first i items. -/
theorem fileSz_take {α : Type} {L : List (It α)} {i : Nat} (h : i < L.length) : fileSz (L.take (i + 1)) = fileSz (L.take i) + if L[i].n.kind = kFile then L[i].n.data.size else 0 := by
  rw [List.take_succ_eq_append_getElem h, fileSz_snoc]

set_option maxRecDepth 100000 in
set_option maxHeartbeats 40000000 in
theorem sizeOf_any (t : Lt) (w : World) (ht : t.Ok w) :
    Calls Tryd.prog 19 #[nval t] w fun e w' => e = .returned (.int .i64 ((fileSz (listed t) : Nat) : Int)) ∧ Below w.heap.size w w' := by
  obtain ⟨a, cap, hv⟩ := ht.shape
  have hB0 : Below w.heap.size w (w.alloc (.cells #[.string t.kind, .string t.data, .bool t.exec, .slice a t.kids.length cap] 24)) := (Below.refl _ _).alloc (Nat.le_refl _) _
  have hb0 := Blk.new w [.string t.kind, .string t.data, .bool t.exec, .slice a t.kids.length cap] 24
  have hT := fun W (h : t.Ok W) => treeErr_any t W h
  have hI := fun W (h : t.Ok W) (h0 : treeE t = 0) => items_any t W h h0
  have hl0 := fun h0 : ¬ treeE t = 0 => (show listed t = [] from if_neg h0)
  have hfx := fun h0 : treeE t = 0 => (show fileSz (itemsOf t) = fileSz (listed t) by rw [listed_of h0]; exact fileSz_fix _)
  have hfn := fun h0 : treeE t = 0 => (show (∀ x ∈ itemsOf t, x.n.data.size ≤ 2000) ∧ (itemsOf t).length ≤ 200 from ⟨fun x hx => by
    obtain ⟨y, hy, rfl⟩ := List.mem_map.1 hx
    exact ((fine_of h0).1 y hy).2, by rw [itemsOf_len]; exact (fine_of h0).2⟩)
  have HO := hidd (ht.ob hB0)
  unfold nval at hT hI ⊢
  rw [hv] at hT hI ⊢
  have HT := hidd hT
  have HI := hidd hI
  have HFX := hidd hfx
  have HFN := hidd hfn
  have HL0 := hidd hl0
  clear hT hI hfx hfn hl0 hv ht
  obtain ⟨N, hN⟩ : ∃ N, fileSz (listed t) = N := ⟨_, rfl⟩
  have HN := hidd hN
  rw [hN]
  clear hN
  by_cases h0 : treeE t = 0
  · have e3 : decide ((0 : Int) < ((0 : Nat) : Int)) = false := decide_eq_false (by omega)
    have HT0 := hidd (fun W h => by have := HT.out W h; rw [h0] at this; exact this)
    have HI0 := hidd (fun W h => HI.out W h h0)
    have HE := hidd (show fileSz (itemsOf t) = N by rw [HFX.out h0, ← HN.out])
    obtain ⟨hda, hmany⟩ := HFN.out h0
    clear HT HI HFX HFN HL0 h0
    obtain ⟨L, hL⟩ : ∃ L, itemsOf t = L := ⟨_, rfl⟩
    rw [hL] at HI0 HE hda hmany
    have HDA := hidd hda
    clear hL hda
    go_enter Tryd.func19, Tryd.ntmps19
    go_wp2_with fail
    refine (HT0.out _ HO.out).mono ?_
    rintro e w2 ⟨rfl, hb2⟩
    have hk2 := hb0.below hb2 hb0.lt
    have x0 := hk2.cell (i := 0) rfl
    have x1 := hk2.cell (i := 1) rfl
    have x2 := hk2.cell (i := 2) rfl
    have x3 := hk2.cell (i := 3) rfl
    have HO2 := hidd (HO.out.ob hb2)
    have hB2 := hB0.trans (hb2.mono hB0.size)
    clear hb2 hB0 hb0 HO
    go_wp2_with fail
    refine (HI0.out _ HO2.out).mono ?_
    rintro e w3 ⟨v, rfl, ho, hb3⟩
    have hB3 := hB2.trans (hb3.mono hB2.size)
    obtain ⟨va, vc, rfl⟩ := ho.shape
    have hsl := ho.sl
    clear hb3 ho hk2 x0 x1 x2 x3 hB2 HO2 HT0 HI0
    go_wp2_with fail
    go_loopw [3, 5] (fun s j wr => ∃ i : Nat, i ≤ L.length ∧ j = .int .i64 (i : Int) ∧ s = .int .i64 ((fileSz (L.take i) : Nat) : Int) ∧ w3 = wr) (fun _ j _ => L.length - (intOf j).toNat)
    case atStart => exact ⟨0, Nat.zero_le _, rfl, rfl, rfl⟩
    case round =>
      obtain ⟨i, hi, rfl, rfl, hwr⟩ := hrel
      subst hwr
      have hbd : fileSz (L.take i) ≤ 400000 := by
        have h1 := fileSz_le (l := L.take i) (fun x hx => HDA.out x (List.mem_of_mem_take hx))
        have h2 : (L.take i).length ≤ 200 := by rw [List.length_take]; omega
        have : 2000 * (L.take i).length ≤ 2000 * 200 := Nat.mul_le_mul_left _ h2
        omega
      by_cases hlt : i < L.length
      · obtain ⟨b, off, rfl, hb, c0, c1, c2, c3, c4, c5⟩ := sl_at6 hsl hlt
        have hs := fileSz_take hlt
        have hd := HDA.out L[i] (List.getElem_mem hlt)
        have p1 : (0 : Int) ≤ (i : Int) := by omega
        have p2 : (i : Int) < (L.length : Int) := by omega
        generalize L[i] = x at *
        obtain ⟨px, dx, ⟨kx, dax, ex, vx, ksx⟩⟩ := x
        simp only [Tr.v, Tr.kind, Tr.data, Tr.exec] at c0 c1 c2 c3 c4 c5 hs hd
        obtain ⟨S0, hS0⟩ : ∃ S, fileSz (L.take i) = S := ⟨_, rfl⟩
        obtain ⟨S1, hS1⟩ : ∃ S, fileSz (L.take (i + 1)) = S := ⟨_, rfl⟩
        rw [hS0] at hs hbd ⊢
        rw [hS1] at hs
        have HS1 := hidd hS1
        clear hS0 hS1 hsl
        by_cases hk : kx = kFile
        · have q1 : (kx.toList == [102, 105, 108, 101]) = true := by rw [hk, kFile_list]; rfl
          have hs : S1 = S0 + dax.size := by simpa [hk] using hs
          have HS := hidd hs
          clear hs hk
          go_wp2_with fail
          go_roundw
          case rel => exact ⟨i + 1, hlt, by go_num, by rw [HS1.out, HS.out]; exact congrArg (Value.int .i64) (by omega), trivial⟩
          case measure => simp [intOf]; omega
        · have q1 : (kx.toList == [102, 105, 108, 101]) = false := by rw [← kFile_list]; exact beq_str hk
          have hs : S1 = S0 := by simpa [hk] using hs
          have HS := hidd hs
          clear hs hk
          go_wp2_with fail
          go_roundw
          case rel => exact ⟨i + 1, hlt, by go_num, by rw [HS1.out, HS.out], trivial⟩
          case measure => simp [intOf]; omega
      · have HF : Hid (fileSz (L.take i) = N) := hidd (by rw [List.take_of_length_le (by omega)]; exact HE.out)
        obtain ⟨S0, hS0⟩ : ∃ S, fileSz (L.take i) = S := ⟨_, rfl⟩
        rw [hS0] at HF hbd ⊢
        clear hS0 hsl
        go_wp2_with fail
        go_ret
        exact ⟨by rw [← HF.out]; rfl, hB3⟩
  · have e3 : decide ((0 : Int) < (treeE t : Int)) = true := decide_eq_true (by omega)
    have e4 : 0 < treeE t := by omega
    have HE := hidd (show N = 0 by rw [← HN.out, HL0.out h0]; rfl)
    clear HI HFX HFN HL0 HN h0
    obtain ⟨c, hc⟩ : ∃ c, treeE t = c := ⟨_, rfl⟩
    rw [hc] at HT e3 e4
    clear hc
    go_enter Tryd.func19, Tryd.ntmps19
    go_wp2_with fail
    refine (HT.out _ HO.out).mono ?_
    rintro e w2 ⟨rfl, hb2⟩
    have hB2 := hB0.trans (hb2.mono hB0.size)
    clear hb2 hB0 hb0 HO HT
    go_wp2_with fail
    go_ret
    exact ⟨by rw [HE.out]; rfl, hB2⟩

/-- The paths of files in a list that is mended. -/
def fixL {α : Type} (l : List (It α)) : List ByteArray := (l.filter fun x => decide (x.n.kind = kFile)).map It.path
theorem fixL_take {α : Type} {L : List (It α)} {i : Nat} (h : i < L.length) : fixL (L.take (i + 1)) = fixL (L.take i) ++ if L[i].n.kind = kFile then [L[i].path] else [] := by
  unfold fixL
  rw [List.take_succ_eq_append_getElem h, List.filter_append, List.map_append]
  congr 1
  by_cases hk : L[i].n.kind = kFile
  · simp [hk]
  · simp [hk]
theorem fixL_le {α : Type} (l : List (It α)) : (fixL l).length ≤ l.length := by
  unfold fixL; rw [List.length_map]; exact List.length_filter_le _ _
theorem fixL_items {α : Type} (t : Tr α) (h0 : treeE t = 0) : fixL (itemsOf t) = fileL (listed t) := by
  rw [listed_of h0, fileL_fix _ (pre_stroke _ _ (.inl rfl) t)]; rfl

set_option maxRecDepth 100000 in
set_option maxHeartbeats 40000000 in
theorem filesOf_any (t : Lt) (w : World) (ht : t.Ok w) :
    Calls Tryd.prog 22 #[nval t] w (FilesP (fileL (listed t)) w) := by
  obtain ⟨i0, hii, hz0, hz1, hz2⟩ := info_parts infoTx
  obtain ⟨a, cap, hv⟩ := ht.shape
  have hB0 : Below w.heap.size w (w.alloc (.cells #[.string t.kind, .string t.data, .bool t.exec, .slice a t.kids.length cap] 24)) := (Below.refl _ _).alloc (Nat.le_refl _) _
  have hb0 := Blk.new w [.string t.kind, .string t.data, .bool t.exec, .slice a t.kids.length cap] 24
  have hT := fun W (h : t.Ok W) => treeErr_any t W h
  have hI := fun W (h : t.Ok W) (h0 : treeE t = 0) => items_any t W h h0
  have hl0 := fun h0 : ¬ treeE t = 0 => (show listed t = [] from if_neg h0)
  have hfx := fun h0 : treeE t = 0 => fixL_items t h0
  have hfn := fun h0 : treeE t = 0 => (show (itemsOf t).length ≤ 200 by rw [itemsOf_len]; exact (fine_of h0).2)
  have HO := hidd (ht.ob hB0)
  unfold nval at hT hI ⊢
  rw [hv] at hT hI ⊢
  have HT := hidd hT
  have HI := hidd hI
  have HFX := hidd hfx
  have HFN := hidd hfn
  have HL0 := hidd hl0
  clear hT hI hfx hfn hl0 hv ht
  obtain ⟨N, hN⟩ : ∃ N, fileL (listed t) = N := ⟨_, rfl⟩
  have HN := hidd hN
  rw [hN]
  clear hN
  by_cases h0 : treeE t = 0
  · have e3 : decide ((0 : Int) < ((0 : Nat) : Int)) = false := decide_eq_false (by omega)
    have HT0 := hidd (fun W h => by have := HT.out W h; rw [h0] at this; exact this)
    have HI0 := hidd (fun W h => HI.out W h h0)
    have HE := hidd (show fixL (itemsOf t) = N by rw [HFX.out h0, ← HN.out])
    have hmany := HFN.out h0
    clear HT HI HFX HFN HL0 h0
    obtain ⟨L, hL⟩ : ∃ L, itemsOf t = L := ⟨_, rfl⟩
    rw [hL] at HI0 HE hmany
    clear hL
    go_enter Tryd.func22, Tryd.ntmps22
    go_wp2_with fail
    refine (HT0.out _ HO.out).mono ?_
    rintro e w2 ⟨rfl, hb2⟩
    have hk2 := hb0.below hb2 hb0.lt
    have x0 := hk2.cell (i := 0) rfl
    have x1 := hk2.cell (i := 1) rfl
    have x2 := hk2.cell (i := 2) rfl
    have x3 := hk2.cell (i := 3) rfl
    have HO2 := hidd (HO.out.ob hb2)
    have hB2 := hB0.trans (hb2.mono hB0.size)
    clear hb2 hB0 hb0 HO
    go_wp2_with fail
    refine (HI0.out _ HO2.out).mono ?_
    rintro e w3 ⟨v, rfl, ho, hb3⟩
    have hB3 := hB2.trans (hb3.mono hB2.size)
    obtain ⟨va, vc, rfl⟩ := ho.shape
    have hsl := ho.sl
    clear hb3 ho hk2 x0 x1 x2 x3 hB2 HO2 HT0 HI0
    go_wp2_with fail
    go_loopw [3, 5] (fun s j wr => ∃ i : Nat, i ≤ L.length ∧ j = .int .i64 (i : Int) ∧ Ow (fun g => w3.heap.size ≤ g) wr 9 1 s (fixL (L.take i)).length (tcells (fixL (L.take i))) ∧ Below w3.heap.size w3 wr) (fun _ j _ => L.length - (intOf j).toNat)
    case atStart => exact ⟨0, Nat.zero_le _, rfl, Ow.nil _ _ _ _, Below.refl _ _⟩
    case round =>
      obtain ⟨i, hi, rfl, ho, hbel⟩ := hrel
      have hBr := hB3.trans (hbel.mono hB3.size)
      have hslr := hsl.ob hbel (Nat.le_refl _)
      obtain ⟨fa, fc, hfv⟩ := ho.shape
      subst hfv
      have hn1 := fixL_le (L.take i)
      have hn2 : (L.take i).length ≤ 200 := by rw [List.length_take]; omega
      by_cases hlt : i < L.length
      · obtain ⟨b, off, rfl, hb, c0, c1, c2, c3, c4, c5⟩ := sl_at6 hslr hlt
        have hs := fixL_take hlt
        have p1 : (0 : Int) ≤ (i : Int) := by omega
        have p2 : (i : Int) < (L.length : Int) := by omega
        generalize L[i] = x at *
        obtain ⟨px, dx, ⟨kx, dax, ex, vx, ksx⟩⟩ := x
        simp only [Tr.v, Tr.kind, Tr.data, Tr.exec] at c0 c1 c2 c3 c4 c5 hs
        obtain ⟨S0, hS0⟩ : ∃ S, fixL (L.take i) = S := ⟨_, rfl⟩
        rw [hS0] at hs ho hn1 ⊢
        obtain ⟨nS, hnS⟩ : ∃ n, S0.length = n := ⟨_, rfl⟩
        have HNS := hidd hnS
        rw [hnS] at ho hn1 ⊢
        clear hS0 hsl hslr hnS
        by_cases hk : kx = kFile
        · have q1 : (kx.toList == [102, 105, 108, 101]) = true := by rw [hk, kFile_list]; rfl
          have hs : fixL (L.take (i + 1)) = S0 ++ [px] := by simpa [hk] using hs
          have HS := hidd hs
          have hs1 := Src.new (P := Tryd.prog) (size := 1) (tx := 36) Tryd.underlying36 wr wr.heap.size rfl [.string px] 9 rfl (by intro u hu; simp at hu; subst hu; rfl) 1
          have hbo := ho.blk
          clear hs hk
          go_wp2_with (at_builtin; refine wpList_append_ow _ rfl _ _ 36 36 rfl (fun g => w3.heap.size ≤ g) ?cF 9 i0 _ 1 16 Tryd.underlying36 hii hz0 hz1 hz2 rfl (by decide) _ _ _ rfl (ho.alloc _) _ _ _ rfl hs1 ?c3 ?c4 ?_)
          case cF => intro g hg; simp at hg; have := hbel.size; omega
          case c3 => unfold maxLen; omega
          case c4 => omega
          intro v3 w4 ho4 hg4
          have hb4 : Below w3.heap.size w3 w4 := (((Fr.refl (fun g => w3.heap.size ≤ g) w3).trans (Fr.of_below hbel (fun i _ h => h))).alloc (.cells #[.string px] 9)).grown hg4 (fun k hk => .inl (hbo k hk).1) |>.below (Nat.le_refl _) (fun _ h => h)
          have HN4 : Hid (Ow (fun g => w3.heap.size ≤ g) w4 9 1 v3 (fixL (L.take (i + 1))).length (tcells (fixL (L.take (i + 1))))) := hidd (by
            rw [HS.out, List.length_append, HNS.out, show tcells (S0 ++ [px]) = tcells S0 ++ [.string px] by simp [tcells]]
            exact ho4)
          clear hg4 ho4 hs1 hbel ho
          go_wp2_with fail
          go_roundw
          case rel => exact ⟨i + 1, hlt, by go_num, HN4.out, hb4⟩
          case measure => simp [intOf]; omega
        · have q1 : (kx.toList == [102, 105, 108, 101]) = false := by rw [← kFile_list]; exact beq_str hk
          have hs : fixL (L.take (i + 1)) = S0 := by simpa [hk] using hs
          have HN4 : Hid (Ow (fun g => w3.heap.size ≤ g) wr 9 1 (.slice fa nS fc) (fixL (L.take (i + 1))).length (tcells (fixL (L.take (i + 1))))) := hidd (by rw [hs, HNS.out]; exact ho)
          clear hs hk ho
          go_wp2_with fail
          go_roundw
          case rel => exact ⟨i + 1, hlt, by go_num, HN4.out, hbel⟩
          case measure => simp [intOf]; omega
      · have HF : Hid (fixL (L.take i) = N) := hidd (by rw [List.take_of_length_le (by omega)]; exact HE.out)
        have HO := hidd (ho.mono (F' := fun g => w.heap.size ≤ g) (fun g hg => by have := hB3.size; omega))
        obtain ⟨nS, hnS⟩ : ∃ n, (fixL (L.take i)).length = n := ⟨_, rfl⟩
        have HNS := hidd hnS
        rw [hnS] at HO ⊢
        clear hsl hslr ho hnS
        go_wp2_with fail
        go_ret
        exact ⟨_, rfl, by rw [← HF.out, HNS.out]; exact HO.out, hBr⟩
  · have e3 : decide ((0 : Int) < (treeE t : Int)) = true := decide_eq_true (by omega)
    have e4 : 0 < treeE t := by omega
    have HE := hidd (show N = [] by rw [← HN.out, HL0.out h0]; rfl)
    clear HI HFX HFN HL0 HN h0
    obtain ⟨c, hc⟩ : ∃ c, treeE t = c := ⟨_, rfl⟩
    rw [hc] at HT e3 e4
    clear hc
    go_enter Tryd.func22, Tryd.ntmps22
    go_wp2_with fail
    refine (HT.out _ HO.out).mono ?_
    rintro e w2 ⟨rfl, hb2⟩
    have hB2 := hB0.trans (hb2.mono hB0.size)
    clear hb2 hB0 hb0 HO HT
    go_wp2_with fail
    go_ret
    exact ⟨_, rfl, by rw [HE.out]; exact Ow.nil _ _ _ _, hB2⟩
end Go.Proofs.YtccplkbbaodpeaaDoor
