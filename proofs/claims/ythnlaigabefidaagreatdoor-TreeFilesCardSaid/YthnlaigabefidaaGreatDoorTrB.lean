/- The contract of tree.Files. Condition: the tree is there, the variables read as listed. -/
import Derived.Test.YthnlaigabefidaaGreatDoorTrJ
namespace Go.Proofs.YthnlaigabefidaaGreatDoor
open Go.RowKit Go.Shelf

theorem infoTx : (Tryz.prog.info? 9).map (fun i => (i.zero, i.size, i.bytes)) = some (some (.string ⟨#[]⟩), 1, 16) := by kernel_rfl
/-- The paths of files. -/
def fileL {α : Type} (l : List (It α)) : List ByteArray := (l.filter fun x => decide (x.n.kind = kFile)).map fun x => pathOf x.path
theorem fileL_yes {α : Type} (l : List (It α)) (x : It α) (h : x.n.kind = kFile) : fileL (l ++ [x]) = fileL l ++ [pathOf x.path] := by simp [fileL, h]
theorem fileL_no {α : Type} (l : List (It α)) (x : It α) (h : ¬ x.n.kind = kFile) : fileL (l ++ [x]) = fileL l := by simp [fileL, h]
theorem fileL_le {α : Type} (l : List (It α)) : (fileL l).length ≤ l.length := by
  unfold fileL; rw [List.length_map]; exact List.length_filter_le _ _
/-- Files' variable. -/
def FlJ (c : Nat) (F : Nat → Prop) (l : List (It Value)) (W : World) : Prop :=
  ∃ v, Blk W c [v] 28 ∧ Ow (fun g => c < g) W 9 1 v (fileL l).length (tcells (fileL l)) ∧ ∀ b, F b ↔ b = c ∨ v.ownBlock = some b

set_option maxRecDepth 100000 in
set_option maxHeartbeats 4000000 in
theorem walkFl (c : Nat) : WalkFiles c (FlJ c) where
  own := fun F l W h b hb => by
    obtain ⟨v, h1, h2, h3⟩ := h
    rcases (h3 b).1 hb with rfl | hb
    · exact h1.lt
    · exact (h2.blk b hb).2
  later := fun F l W W' h hb => by
    obtain ⟨v, h1, h2, h3⟩ := h
    exact ⟨v, h1.below hb h1.lt, h2.ob hb, h3⟩
  step := fun F l x W h hl hp hx => by
    obtain ⟨i0, hi, hz0, hz1, hz2⟩ := info_parts infoTx
    obtain ⟨a, cap, hv⟩ := hx.shape
    obtain ⟨v, hb, ho, hF⟩ := h
    obtain ⟨va, vc, rfl⟩ := ho.shape
    have hlt := hb.lt
    have h1 := hb.alloc (.cells #[.string x.n.kind, .string x.n.data, .bool x.n.exec, .slice a x.n.kids.length cap] 24)
    have hc := h1.cell (i := 0) rfl
    have hf := h1.frozen 0
    have ho1 := ho.alloc (.cells #[.string x.n.kind, .string x.n.data, .bool x.n.exec, .slice a x.n.kids.length cap] 24)
    unfold nval
    rw [hv]
    by_cases hk : x.n.kind = kFile
    · have q1 : (x.n.kind.toList == [102, 105, 108, 101]) = true := by rw [hk, kFile_list]; rfl
      have hfy := fileL_yes l x hk
      have hfl := fileL_le l
      have hfr0 : Fr F W (W.alloc (.cells #[.string x.n.kind, .string x.n.data, .bool x.n.exec, .slice a x.n.kids.length cap] 24)) := (Fr.refl F W).alloc _
      have hz : (W.alloc (.cells #[.string x.n.kind, .string x.n.data, .bool x.n.exec, .slice a x.n.kids.length cap] 24)).heap.size = W.heap.size + 1 := by simp
      have hbo := ho.blk
      have hnl : (fileL l).length ≤ 1000 := by omega
      have HFY := hidd hfy
      have hs1 := Src.new (P := Tryz.prog) (size := 1) (tx := 28) Tryz.underlying28 (W.alloc (.cells #[.string x.n.kind, .string x.n.data, .bool x.n.exec, .slice a x.n.kids.length cap] 24)) (W.heap.size + 1) hz.symm [.string (pathOf x.path)] 9 rfl (by intro u hu; simp at hu; subst hu; rfl) 1
      have ho2 := ho1.self.mono (F' := fun g => c < g ∧ ((Value.slice va (fileL l).length vc).ownBlock = some g ∨ W.heap.size ≤ g)) (fun g hg => ⟨(hbo g hg).1, .inl hg⟩)
      have h2 := h1.alloc (.cells #[.string (pathOf x.path)] 9)
      have hnc : some c ≠ (Value.slice va (fileL l).length vc).ownBlock := fun e => by have := (hbo c e.symm).1; omega
      obtain ⟨N, hN⟩ : ∃ N, (fileL l).length = N := ⟨_, rfl⟩
      obtain ⟨T, hT⟩ : ∃ T, tcells (fileL l) = T := ⟨_, rfl⟩
      have HN := hidd hN
      have HT := hidd hT
      rw [hN] at ho2 hb hc h1 h2 hnc hnl hF hbo
      rw [hT] at ho2
      generalize pathOf x.path = px at *
      clear hN hT hfy ho ho1 hv hp hx hk hfl
      go_enter Tryz.func31, Tryz.ntmps31
      go_wp2_with (at_builtin; refine wpList_append_ow _ rfl _ _ 28 28 rfl (fun g => c < g ∧ ((Value.slice va N vc).ownBlock = some g ∨ W.heap.size ≤ g)) ?cF 9 i0 _ 1 16 Tryz.underlying28 hi hz0 hz1 hz2 rfl (by decide) _ _ _ rfl (ho2.alloc _) _ _ _ rfl hs1 ?c3 ?c4 ?_)
      case cF => intro g hg; simp at hg; exact ⟨by omega, .inr (by omega)⟩
      case c3 => unfold maxLen; omega
      case c4 => omega
      intro v3 w3 ho3 hg3
      have hfr3 : Fr F W w3 := ((hfr0.alloc _)).grown hg3 (fun k hk => .inl ((hF k).2 (.inr hk)))
      have hc3 : Blk w3 c [.slice va N vc] 28 := h2.grown hg3 hnc
      have hcc := hc3.cell (i := 0) rfl
      have hcf := hc3.frozen 0
      obtain ⟨v3a, v3c, rfl⟩ := ho3.shape
      have hb3 := ho3.blk
      have HP : Hid (∃ F', FlJ c F' (l ++ [x]) (w3.setCell ⟨c, 0, none⟩ (.slice v3a (N + 1) v3c)) ∧ Fr F W (w3.setCell ⟨c, 0, none⟩ (.slice v3a (N + 1) v3c)) ∧ ∀ b, F' b → F b ∨ W.heap.size ≤ b) := hidd
        ⟨fun b => b = c ∨ (Value.slice v3a (N + 1) v3c).ownBlock = some b, ⟨_, hc3.set 0 _, by
          rw [HFY.out, List.length_append, HN.out, show tcells (fileL l ++ [px]) = T ++ [.string px] by rw [← HT.out]; simp [tcells]]
          exact (ho3.set (a := ⟨c, 0, none⟩) (fun e => Nat.lt_irrefl _ e.1) _).mono (fun g hg => hg.1), fun b => Iff.rfl⟩,
          hfr3.setCell (p := ⟨c, 0, none⟩) (.inl ((hF c).2 (.inl rfl))) _, fun b hb => by
            rcases hb with rfl | hb
            · exact .inl ((hF _).2 (.inl rfl))
            · rcases (hb3 b hb).1.2 with h | h
              · exact .inl ((hF b).2 (.inr h))
              · exact .inr h⟩
      clear hg3 ho3 hfr3 hc3 hs1 ho2 h2 h1
      go_wp2_with fail
      go_end0
      exact ⟨rfl, HP.out⟩
    · have q1 : (x.n.kind.toList == [102, 105, 108, 101]) = false := by rw [← kFile_list]; exact beq_str hk
      have HP : Hid (∃ F', FlJ c F' (l ++ [x]) (W.alloc (.cells #[.string x.n.kind, .string x.n.data, .bool x.n.exec, .slice a x.n.kids.length cap] 24)) ∧ Fr F W (W.alloc (.cells #[.string x.n.kind, .string x.n.data, .bool x.n.exec, .slice a x.n.kids.length cap] 24)) ∧ ∀ b, F' b → F b ∨ W.heap.size ≤ b) := hidd
        ⟨F, ⟨_, h1, by rw [fileL_no l x hk]; exact ho1, hF⟩, (Fr.refl F W).alloc _, fun b hb => .inl hb⟩
      clear h1 hv hp hx hk hb ho ho1 hF
      go_enter Tryz.func31, Tryz.ntmps31
      go_wp2_with fail
      go_end0
      exact ⟨rfl, HP.out⟩

/-- What Files gives. -/
def FilesP (l : List ByteArray) (w : World) (e : Ending) (w' : World) : Prop :=
  ∃ v, e = .returned v ∧ Ow (fun g => w.heap.size ≤ g) w' 9 1 v l.length (tcells l) ∧ Below w.heap.size w w'
set_option maxRecDepth 100000 in
theorem files_any (E : Nat → Addr) (B : Nat) (t : Lt) (w : World) (ht : t.Ok w) (hE : Env codeGs B w E) :
    Calls Tryz.prog 9 #[nval t] w (FilesP (fileL (listed t)) w) := by
  obtain ⟨a, cap, hv⟩ := ht.shape
  have hB2 : Below w.heap.size w ((w.alloc (.cells #[.string t.kind, .string t.data, .bool t.exec, .slice a t.kids.length cap] 24)).alloc (.cells #[.slice none 0 0] 28)) := ((Below.refl _ _).alloc (Nat.le_refl _) _).alloc (by simp) _
  have hb2 := Blk.new (w.alloc (.cells #[.string t.kind, .string t.data, .bool t.exec, .slice a t.kids.length cap] 24)) [.slice none 0 0] 28
  rw [show (w.alloc (.cells #[.string t.kind, .string t.data, .bool t.exec, .slice a t.kids.length cap] 24)).heap.size = w.heap.size + 1 by simp] at hb2
  have hC := eachFiles (w.heap.size + 1) (FlJ (w.heap.size + 1)) (walkFl _) E B t (fun b => b = w.heap.size + 1) _ (ht.ob hB2) (in_mono (fun b hb h => by omega) t (ok_in t ht)) (hE.ob hB2) ⟨_, hb2, Ow.nil _ _ _ _, fun b => ⟨.inl, fun h => h.elim id (fun h => by simp [Value.ownBlock] at h)⟩⟩
  unfold nval at hC ⊢
  rw [hv] at hC ⊢
  have HC := hidd hC
  clear hC hv ht hE hb2
  obtain ⟨L, hL⟩ : ∃ L, listed t = L := ⟨_, rfl⟩
  rw [hL] at HC ⊢
  clear hL
  go_enter Tryz.func9, Tryz.ntmps9
  go_wp2_with fail
  refine HC.out.mono ?_
  rintro e w2 ⟨rfl, F', ⟨v, hF1, hF2, hF3⟩, hf, hFF⟩
  have hB := hB2.trans (hf.below (B := w.heap.size) (by simp; omega) (fun b hb => by omega))
  have hc := hF1.cell (i := 0) rfl
  have HO := hidd (hF2.mono (F' := fun g => w.heap.size ≤ g) (fun g hg => by omega))
  obtain ⟨va, vc, rfl⟩ := hF2.shape
  clear hf hFF hF1 hF2 hF3
  go_wp2_with fail
  go_ret
  exact ⟨_, rfl, HO.out, hB⟩
end Go.Proofs.YthnlaigabefidaaGreatDoor
