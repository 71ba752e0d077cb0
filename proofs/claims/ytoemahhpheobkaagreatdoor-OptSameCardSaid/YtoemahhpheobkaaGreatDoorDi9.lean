/- Dirs: Get. Condition: the dirs are there. · Dirs: need. Condition: the tree is there. · Dirs: Put. Condition: the dirs and the tree are there. · Dirs: Put, its three ways. Condition: the dirs and the tree are there. -/
import Derived.Test.YtoemahhpheobkaaGreatDoorDi5
namespace Go.Proofs.YtoemahhpheobkaaGreatDoor
open Go.RowKit Go.Shelf

/-- The nodes of a tree of the dirs are those of the tree that was put. -/
theorem ent_pre {e : Dt} (hw : e.Well) : (pre ⟨#[]⟩ 0 e.tr).map (fun x => (x.path, x.n.kind, x.n.kids.length)) = (pre ⟨#[]⟩ 0 e.src).map (fun x => (x.path, x.n.kind, x.n.kids.length)) := by
  have h1 : pre ⟨#[]⟩ 0 e.tr.bare = (pre ⟨#[]⟩ 0 e.tr).map (It.map fun _ => ()) := pre_map _ _ _ _
  have h2 := pre_bareT ⟨#[]⟩ 0 e.src
  rw [hw.bare, h2] at h1
  have h3 := congrArg (fun l : List (It Unit) => l.map fun x => (x.path, x.n.kind, x.n.kids.length)) h1
  simp only [List.map_map] at h3
  have e1 : ((fun x : It Unit => (x.path, x.n.kind, x.n.kids.length)) ∘ fun x : It Unit => (⟨x.path, x.deep, bareT x.n⟩ : It Unit)) = fun x => (x.path, x.n.kind, x.n.kids.length) := by
    funext x
    simp only [Function.comp_apply, kind_bareT, kids_bareT, List.length_map]
  have e2 : ((fun x : It Unit => (x.path, x.n.kind, x.n.kids.length)) ∘ It.map fun _ : Value => ()) = fun x => (x.path, x.n.kind, x.n.kids.length) := by
    funext x
    simp only [Function.comp_apply, It.map, Tr.kind_map, Tr.kids_map, List.length_map]
  rw [e1, e2] at h3
  exact h3.symm
theorem ent_items {e : Dt} (hw : e.Well) : (∀ x ∈ pre ⟨#[]⟩ 0 e.tr, x.path.size ≤ 1000000 ∧ (x.n.kind = kFile → x.n.kids = [] ∧ pathOf x.path ∈ e.fl)) ∧ (∀ q ∈ e.fl, ∃ x ∈ pre ⟨#[]⟩ 0 e.tr, x.n.kind = kFile ∧ pathOf x.path = q) ∧ e.tr.sz ≤ 200 := by
  have hp := ent_pre hw
  have h0 := hw.right
  obtain ⟨h1, h2⟩ := scan_zero h0
  have hl : ∀ x ∈ pre ⟨#[]⟩ 0 e.src, x.n.kind = kFile → pathOf x.path ∈ e.fl := fun x hx hk => by
    show _ ∈ fileL (listed e.src)
    rw [listed_of h0]
    unfold fileL
    exact List.mem_map.2 ⟨x, List.mem_filter.2 ⟨hx, by simpa using hk⟩, rfl⟩
  refine ⟨fun x hx => ?_, fun q hq => ?_, ?_⟩
  · have h3 : (x.path, x.n.kind, x.n.kids.length) ∈ (pre ⟨#[]⟩ 0 e.src).map (fun x => (x.path, x.n.kind, x.n.kids.length)) := by rw [← hp]; exact List.mem_map.2 ⟨x, hx, rfl⟩
    obtain ⟨z, hz, e1⟩ := List.mem_map.1 h3
    simp only [Prod.mk.injEq] at e1
    obtain ⟨e1, e2, e3⟩ := e1
    have hpp := pre_path ⟨#[]⟩ 0 e.src (fun y hy => (h1 y hy).2) z hz
    have := (h1 z hz).1
    have hz0 : (⟨#[]⟩ : ByteArray).size = 0 := rfl
    rw [← e1]
    refine ⟨by omega, fun hk => ⟨?_, hl z hz (e2.trans hk)⟩⟩
    have := own_leafd (h1 z hz).2 (e2.trans hk)
    rw [this] at e3
    exact List.eq_nil_of_length_eq_zero e3.symm
  · have hq' : q ∈ fileL (listed e.src) := hq
    rw [listed_of h0] at hq'
    unfold fileL at hq'
    obtain ⟨z, hz, rfl⟩ := List.mem_map.1 hq'
    obtain ⟨hz1, hz2⟩ := List.mem_filter.1 hz
    have h3 : (z.path, z.n.kind, z.n.kids.length) ∈ (pre ⟨#[]⟩ 0 e.tr).map (fun x => (x.path, x.n.kind, x.n.kids.length)) := by rw [hp]; exact List.mem_map.2 ⟨z, hz1, rfl⟩
    obtain ⟨x, hx, e1⟩ := List.mem_map.1 h3
    simp only [Prod.mk.injEq] at e1
    exact ⟨x, hx, by rw [e1.2.1]; exact of_decide_eq_true hz2, by rw [e1.1]⟩
  · have h3 := congrArg List.length hp
    rw [List.length_map, List.length_map, pre_len, pre_len] at h3
    have := h2 (by rw [pre_cons]; simp)
    rw [pre_len] at this
    omega

/-- What Get gives. -/
def GtP (E : Nat → Addr) (s : St) (e0 : Dt) (w : World) (e : Ending) (w' : World) : Prop :=
  Below w.heap.size w w' ∧ ((∃ y : Lt, e = .returned (.tuple #[nval y, .nilIface]) ∧ y.bare = fillT (rdG s e0) ⟨#[]⟩ e0.tr.bare ∧ y.Ok w' ∧ y.In (fun b => w.heap.size ≤ b ∧ b < w'.heap.size) ∧ ∀ q ∈ e0.fl, (rdP s.ls s.T e0.F q).isSome = true) ∨
    (e = .returned (.tuple #[nodeZ, .iface 249 (.pointer (some (E 3)))]) ∧ ∃ q ∈ e0.fl, rdP s.ls s.T e0.F q = none))

set_option maxRecDepth 100000 in
set_option maxHeartbeats 4000000 in
theorem dget_none {pc : Prop} (E : Nat → Addr) (B : Nat) (L : Loc) (s : St) (k : Int) (w : World) (h : DiM pc w L s) (hE : Env diGs B w E) (hk : K64 k) (hd : dmF s.D k = none) :
    Calls Tryz.prog 14 #[.pointer (some ⟨L.d, 0, none⟩), .int .i64 k] w fun e w' => e = .returned (.tuple #[nodeZ, .iface 249 (.pointer (some (E 1)))]) ∧ Below w.heap.size w w' := by
  have hB0 : Below w.heap.size w (w.alloc (.cells #[.string ⟨#[]⟩, .string ⟨#[]⟩, .bool false, .slice none 0 0] 32)) := (Below.refl _ _).alloc (Nat.le_refl _) _
  have hc1 := (h.low hB0).c1
  have hl := (h.low hB0).look_ok hk
  rw [hd] at hl
  simp only [Option.getD_none, Option.isSome_none, entZ] at hl
  have hB1 : Below w.heap.size w ((w.alloc (.cells #[.string ⟨#[]⟩, .string ⟨#[]⟩, .bool false, .slice none 0 0] 32)).alloc (.cells #[.string ⟨#[]⟩, .string ⟨#[]⟩, .bool false, .slice none 0 0, .map none] 83)) := hB0.alloc (by simp) _
  have s0 := (Blk.new w [.string ⟨#[]⟩, .string ⟨#[]⟩, .bool false, .slice none 0 0] 32).alloc (.cells #[.string ⟨#[]⟩, .string ⟨#[]⟩, .bool false, .slice none 0 0, .map none] 83)
  have g1 := (hE.ob hB1).cell _ di_none
  have hgl : 1 < w.heap.size := World.block_lt_of_cell? w _ (hE.cell _ di_none)
  unfold erv at g1
  have HB1 := hidd hB1
  clear h hE hd hB0 hB1
  unfold nodeZ
  go_enter Tryz.func14, Tryz.ntmps14
  go_upto_region 3 with fail
  generalize hW : (w.alloc (.cells #[.string ⟨#[]⟩, .string ⟨#[]⟩, .bool false, .slice none 0 0] 32)).alloc (.cells #[.string ⟨#[]⟩, .string ⟨#[]⟩, .bool false, .slice none 0 0, .map none] 83) = w1 at *
  have HW := hidd hW
  clear hW hl hc1
  have e0' := s0.cell (i := 0) rfl
  have f0 := s0.frozen 0
  have e1 := s0.cell (i := 1) rfl
  have f1 := s0.frozen 1
  have e2 := s0.cell (i := 2) rfl
  have f2 := s0.frozen 2
  have e3 := s0.cell (i := 3) rfl
  have f3 := s0.frozen 3
  have HS := hidd s0
  clear s0
  go_region
  have S4 := ((((HS.out.set 0 (.string ⟨#[]⟩)).set 1 (.string ⟨#[]⟩)).set 2 (.bool false)).set 3 (.slice none 0 0)).drew
  have hB4 := ((((HB1.out.setCell (p := ⟨w.heap.size, 0, none⟩) (Nat.le_refl _) (.string ⟨#[]⟩)).setCell (p := ⟨w.heap.size, 1, none⟩) (Nat.le_refl _) (.string ⟨#[]⟩)).setCell (p := ⟨w.heap.size, 2, none⟩) (Nat.le_refl _) (.bool false)).setCell (p := ⟨w.heap.size, 3, none⟩) (Nat.le_refl _) (.slice none 0 0)).drew
  generalize ((((w1.setCell ⟨w.heap.size, 0, none⟩ (.string ⟨#[]⟩)).setCell ⟨w.heap.size, 1, none⟩ (.string ⟨#[]⟩)).setCell ⟨w.heap.size, 2, none⟩ (.bool false)).setCell ⟨w.heap.size, 3, none⟩ (.slice none 0 0)).drew = w2 at *
  have i0 := S4.cell (i := 0) rfl
  have i1 := S4.cell (i := 1) rfl
  have i2 := S4.cell (i := 2) rfl
  have i3 := S4.cell (i := 3) rfl
  have HB4 := hidd hB4
  clear S4 hB4 e0' f0 e1 f1 e2 f2 e3 f3
  go_wp2_with fail
  refine bodyPost_ret (v := .tuple #[.agg #[.string ⟨#[]⟩, .string ⟨#[]⟩, .bool false, .slice none 0 0], .iface 249 (.pointer (some (E 1)))]) ?_ rfl ?_
  · rw [results_cell_tmp rfl]
    go_simp
  · exact ⟨rfl, HB4.out⟩

set_option maxRecDepth 100000 in
set_option maxHeartbeats 8000000 in
theorem dget_some {pc : Prop} (E : Nat → Addr) (B : Nat) (L : Loc) (s : St) (k : Nat) (e0 : Dt) (w : World) (h : DiAt pc w L s) (hE : Env diGs B w E) (hk : K64 (k : Int)) (hN : s.N ≤ 1000000) (he : s.D k = some e0) :
    Calls Tryz.prog 14 #[.pointer (some ⟨L.d, 0, none⟩), .int .i64 (k : Int)] w (GtP E s e0 w) := by
  obtain ⟨hi1, hi2, hi3⟩ := ent_items (h.well k e0 he)
  obtain ⟨ea, ec, hev⟩ := (h.tr _ _ he).shape
  have hent : entV e0 = .agg #[.string e0.tr.kind, .string e0.tr.data, .bool e0.tr.exec, .slice ea e0.tr.kids.length ec, .map (some e0.fm)] := by unfold entV; rw [hev]
  have hB0 : Below w.heap.size w (w.alloc (.cells #[.string ⟨#[]⟩, .string ⟨#[]⟩, .bool false, .slice none 0 0] 32)) := (Below.refl _ _).alloc (Nat.le_refl _) _
  have hc1 := (h.low hB0).c1
  have hl := (h.low hB0).look_ok hk
  rw [dmF_nat, he] at hl
  simp only [Option.map_some, Option.getD_some, Option.isSome_some] at hl
  have hF : ∀ x ∈ pre ⟨#[]⟩ 0 e0.tr, x.path.size ≤ 1000000 ∧ (x.n.kind = kFile → x.n.kids = [] ∧ ∃ n y, e0.F (pathOf x.path) = some n ∧ s.T n = some y) := fun x hx => by
    obtain ⟨h1, h2⟩ := hi1 x hx
    refine ⟨h1, fun hkf => ⟨(h2 hkf).1, ?_⟩⟩
    have h3 := ((h.well k e0 he).dom _).2 (h2 hkf).2
    cases hq : e0.F (pathOf x.path) with
    | none => rw [hq] at h3; cases h3
    | some n =>
      obtain ⟨y, hy, -⟩ := h.ino he hq
      exact ⟨n, y, rfl, hy⟩
  have HFD := hidd (fun W (hW : Below w.heap.size w W) => filled_any E B L s k e0 he hN 200 e0.tr ⟨#[]⟩ 0 W hi3 (by omega) ((h.tr _ _ he).ob hW) (h.low hW).toDiM (hE.ob hW) hF)
  rw [hent] at hl HFD
  have HT := hidd (⟨h.tr _ _ he, hi1, hi2⟩ : e0.tr.Ok w ∧ (∀ x ∈ pre ⟨#[]⟩ 0 e0.tr, x.path.size ≤ 1000000 ∧ (x.n.kind = kFile → x.n.kids = [] ∧ pathOf x.path ∈ e0.fl)) ∧ ∀ q ∈ e0.fl, ∃ x ∈ pre ⟨#[]⟩ 0 e0.tr, x.n.kind = kFile ∧ pathOf x.path = q)
  clear hi1 hi2 hi3 hF h hE hent
  unfold nval at HFD
  rw [hev] at HFD
  have hs0 := Blk.new w [.string ⟨#[]⟩, .string ⟨#[]⟩, .bool false, .slice none 0 0] 32
  obtain ⟨tr, fm, src, F⟩ := e0
  obtain ⟨tk, td, te, tv, tks⟩ := tr
  simp only [Tr.kind, Tr.data, Tr.exec, Tr.v, Tr.kids] at hev hl HFD
  subst hev
  have hx1 := Blk.new (w.alloc (.cells #[.string ⟨#[]⟩, .string ⟨#[]⟩, .bool false, .slice none 0 0] 32)) [.string tk, .string td, .bool te, .slice ea tks.length ec, .map (some fm)] 83
  rw [asz] at hx1
  have hs1 := hs0.alloc (.cells #[.string tk, .string td, .bool te, .slice ea tks.length ec, .map (some fm)] 83)
  have hB1 : Below w.heap.size w ((w.alloc (.cells #[.string ⟨#[]⟩, .string ⟨#[]⟩, .bool false, .slice none 0 0] 32)).alloc (.cells #[.string tk, .string td, .bool te, .slice ea tks.length ec, .map (some fm)] 83)) := hB0.alloc (by simp) _
  have HB1 := hidd hB1
  clear hB1 hs0 hB0
  go_enter Tryz.func14, Tryz.ntmps14
  go_upto_region 4 with fail
  generalize (w.alloc (.cells #[.string ⟨#[]⟩, .string ⟨#[]⟩, .bool false, .slice none 0 0] 32)).alloc (.cells #[.string tk, .string td, .bool te, .slice ea tks.length ec, .map (some fm)] 83) = w1 at *
  have x0 := hx1.cell (i := 0) rfl
  have x1 := hx1.cell (i := 1) rfl
  have x2 := hx1.cell (i := 2) rfl
  have x3 := hx1.cell (i := 3) rfl
  have x4 := hx1.cell (i := 4) rfl
  clear hl hc1
  go_wp2_with fail
  refine (HFD.out w1 HB1.out).mono ?_
  intro e w5 hP
  obtain ⟨hb5, hr⟩ := hP
  have hB5 := HB1.out.trans (hb5.mono HB1.out.size)
  have hs5 := hs1.below hb5 hs1.lt
  have hsz1 : w.heap.size + 1 ≤ w1.heap.size := hs1.lt
  clear hs1 hx1
  clear x0 x1 x2 x3 x4
  rcases hr with ⟨a, c, ks, da, he', h1, h2, h3, h4⟩ | ⟨kq, dq, eq, a, n, c, he', hbad⟩
  · simp only [Tr.kind, Tr.exec] at he' h1 h2 h3
    subst he'
    have s0 := hs5.alloc (.cells #[.string tk, .string da, .bool te, .slice a ks.length c] 32)
    have hx := Blk.new w5 [.string tk, .string da, .bool te, .slice a ks.length c] 32
    have hB6 := hB5.alloc hB5.size (.cells #[.string tk, .string da, .bool te, .slice a ks.length c] 32)
    have h2' := h2.alloc (.cells #[.string tk, .string da, .bool te, .slice a ks.length c] 32)
    have hz6 := asz w5 (.cells #[.string tk, .string da, .bool te, .slice a ks.length c] 32)
    have HNM := hidd h1
    have H2 := hidd h2'
    have H3 := hidd h3
    have H4 := hidd h4
    have HZ6 := hidd hz6
    clear h1 h2 h3 h4 h2' hz6 hb5 hs5
    go_upto_region 7 with fail
    generalize hW6 : w5.alloc (.cells #[.string tk, .string da, .bool te, .slice a ks.length c] 32) = w6 at *
    clear hW6
    have x0 := hx.cell (i := 0) rfl
    have x1 := hx.cell (i := 1) rfl
    have x2 := hx.cell (i := 2) rfl
    have x3 := hx.cell (i := 3) rfl
    clear hx
    have e0' := s0.cell (i := 0) rfl
    have f0 := s0.frozen 0
    have s1 := s0.set 0 (.string tk)
    have e1 := s1.cell (i := 1) rfl
    have f1 := s1.frozen 1
    have s2 := s1.set 1 (.string da)
    have e2 := s2.cell (i := 2) rfl
    have f2 := s2.frozen 2
    have s3 := s2.set 2 (.bool te)
    have e3 := s3.cell (i := 3) rfl
    have f3 := s3.frozen 3
    have s4 := s3.set 3 (.slice a ks.length c)
    have r0 := s4.cell (i := 0) rfl
    have r1 := s4.cell (i := 1) rfl
    have r2 := s4.cell (i := 2) rfl
    have r3 := s4.cell (i := 3) rfl
    have hFF := ((((Fr.refl (fun b => b = w.heap.size) w6).setCell (p := ⟨w.heap.size, 0, none⟩) (.inl rfl) (.string tk)).setCell (p := ⟨w.heap.size, 1, none⟩) (.inl rfl) (.string da)).setCell (p := ⟨w.heap.size, 2, none⟩) (.inl rfl) (.bool te)).setCell (p := ⟨w.heap.size, 3, none⟩) (.inl rfl) (.slice a ks.length c)
    have HBB := hidd (hB6.trans (hFF.below hB6.size (fun b e => by omega)))
    have HFF := hidd hFF
    have HB6 := hidd hB6
    clear s1 s2 s3 s4 hFF hB6
    go_wp2_with fail
    refine bodyPost_ret (v := .tuple #[.agg #[.string tk, .string da, .bool te, .slice a ks.length c], .nilIface]) ?_ rfl ?_
    · rw [results_cell_tmp rfl]
      go_simp
    · have hF := HFF.out
      have hz := HZ6.out
      have hzf := hF.size
      have hlt5 := hB5.size
      refine ⟨HBB.out, .inl ⟨Tr.mk tk da te (.slice a ks.length c) ks, rfl, HNM.out, ?_, ?_, fun q hq => ?_⟩⟩
      · exact ok_fr hF _ H2.out (in_mono (fun b hb e => by have := HB1.out.size; omega) _ H3.out)
      · exact in_mono (fun b hb => ⟨by have := HB1.out.size; omega, by omega⟩) _ H3.out
      · obtain ⟨x, hx, hxk, rfl⟩ := HT.out.2.2 q hq
        exact H4.out x hx hxk
  · subst he'
    have s0 := hs5.alloc (.cells #[.string kq, .string dq, .bool eq, .slice a n c] 32)
    have hB6 := hB5.alloc hB5.size (.cells #[.string kq, .string dq, .bool eq, .slice a n c] 32)
    have HBD : Hid (∃ q ∈ (Dt.mk (Tr.mk tk td te (.slice ea tks.length ec) tks) fm src F).fl, rdP s.ls s.T F q = none) := hidd (by
      obtain ⟨x, hx, h1, h2⟩ := hbad
      exact ⟨_, (HT.out.2.1 x hx).2 h1 |>.2, h2⟩)
    clear hbad hb5 hs5
    go_upto_region 6 with fail
    generalize hW6 : w5.alloc (.cells #[.string kq, .string dq, .bool eq, .slice a n c] 32) = w6 at *
    clear hW6
    have e0' := s0.cell (i := 0) rfl
    have f0 := s0.frozen 0
    have s1 := s0.set 0 (.string ⟨#[]⟩)
    have e1 := s1.cell (i := 1) rfl
    have f1 := s1.frozen 1
    have s2 := s1.set 1 (.string ⟨#[]⟩)
    have e2 := s2.cell (i := 2) rfl
    have f2 := s2.frozen 2
    have s3 := s2.set 2 (.bool false)
    have e3 := s3.cell (i := 3) rfl
    have f3 := s3.frozen 3
    have s4 := s3.set 3 (.slice none 0 0)
    have r0 := s4.cell (i := 0) rfl
    have r1 := s4.cell (i := 1) rfl
    have r2 := s4.cell (i := 2) rfl
    have r3 := s4.cell (i := 3) rfl
    have hFF := ((((Fr.refl (fun b => b = w.heap.size) w6).setCell (p := ⟨w.heap.size, 0, none⟩) (.inl rfl) (.string ⟨#[]⟩)).setCell (p := ⟨w.heap.size, 1, none⟩) (.inl rfl) (.string ⟨#[]⟩)).setCell (p := ⟨w.heap.size, 2, none⟩) (.inl rfl) (.bool false)).setCell (p := ⟨w.heap.size, 3, none⟩) (.inl rfl) (.slice none 0 0)
    have HBB := hidd (hB6.trans (hFF.below hB6.size (fun b e => by omega)))
    have HFF := hidd hFF
    have HB6 := hidd hB6
    clear s1 s2 s3 s4 hFF hB6
    go_wp2_with fail
    refine bodyPost_ret (v := .tuple #[.agg #[.string ⟨#[]⟩, .string ⟨#[]⟩, .bool false, .slice none 0 0], .iface 249 (.pointer (some (E 3)))]) ?_ rfl ?_
    · rw [results_cell_tmp rfl]
      go_simp
    · exact ⟨by first | exact HBB.out | exact HB6.out, .inr ⟨rfl, HBD.out⟩⟩
end Go.Proofs.YtoemahhpheobkaaGreatDoor

namespace Go.Proofs.YtoemahhpheobkaaGreatDoor
open Go.RowKit Go.Shelf

/-- What dirs.need's function keeps. -/
structure WalkNeed (c : Nat) (J : (Nat → Prop) → List (It Value) → World → Prop) : Prop where
  own : ∀ F l W, J F l W → ∀ b, F b → b < W.heap.size
  later : ∀ F l W W', J F l W → Below W.heap.size W W' → J F l W'
  step : ∀ F l (x : It Value) W, J F l W → l.length < 1000 → Fine x → x.n.Ok W → Calls Tryz.prog 60 #[nval x.n, .string (pathOf x.path), .pointer (some ⟨c, 0, none⟩)] W fun e W' =>
    e = .returned (.tuple #[]) ∧ ∃ F', J F' (l ++ [x]) W' ∧ Fr F W W' ∧ ∀ b, F' b → F b ∨ W.heap.size ≤ b
/-- The same, beside the box of the function value. -/
def BoxNeed (c q : Nat) (J : (Nat → Prop) → List (It Value) → World → Prop) (F : Nat → Prop) (l : List (It Value)) (W : World) : Prop :=
  J F l W ∧ W.cell? ⟨q, 0, none⟩ = some (.func (.func 60) #[] #[.pointer (some ⟨c, 0, none⟩)]) ∧ ¬ F q ∧ q < W.heap.size

set_option maxRecDepth 100000 in
theorem walkerNeed (c q : Nat) (J : (Nat → Prop) → List (It Value) → World → Prop) (hW : WalkNeed c J) : Walker q Fine (BoxNeed c q J) where
  own := fun F l W h => hW.own F l W h.1
  later := fun F l W W' h hb => ⟨hW.later F l W W' h.1 hb, (hb.cell (p := ⟨q, 0, none⟩) h.2.2.2).trans h.2.1, h.2.2.1, Nat.lt_of_lt_of_le h.2.2.2 hb.size⟩
  step := fun F l x W h hl hp hx => by
    obtain ⟨h1, h2, h3, h4⟩ := h
    obtain ⟨a, cap, hv⟩ := hx.shape
    have hB0 : Below W.heap.size W (W.alloc (.cells #[.string x.n.kind, .string x.n.data, .bool x.n.exec, .slice a x.n.kids.length cap] 32)) := (Below.refl _ _).alloc (Nat.le_refl _) _
    have hz : (W.alloc (.cells #[.string x.n.kind, .string x.n.data, .bool x.n.exec, .slice a x.n.kids.length cap] 32)).heap.size = W.heap.size + 1 := by simp
    have hc := (hB0.cell (p := ⟨q, 0, none⟩) h4).trans h2
    have hC := hW.step F l x _ (hW.later _ _ _ _ h1 hB0) hl hp (hx.ob hB0)
    have hmx : ∀ (w : World) (ts : Array TypeId) (t : TypeId), (Builtin.max_ ts t #[.string x.path, .string ⟨#[47]⟩]).run Tryz.prog w = .ok (.string (pathOf x.path)) w := fun w ts t => Lib.run_max_strs w ts t _ _
    unfold nval at hC ⊢
    rw [hv] at hC ⊢
    have HC := hidd hC
    generalize pathOf x.path = px at *
    clear hC hv hx h1
    go_enter Tryz.func73, Tryz.ntmps73
    go_wp2_with fail
    refine HC.out.mono ?_
    rintro e w4 ⟨rfl, F4, hJ4, hf4, hF4⟩
    have HF : Hid (∃ F', BoxNeed c q J F' (l ++ [x]) w4 ∧ Fr F W w4 ∧ ∀ b, F' b → F b ∨ W.heap.size ≤ b) := hidd ⟨F4, ⟨hJ4, hf4.cell hc h3, fun h => by rcases hF4 q h with h | h; exact h3 h; omega, by have := hf4.size; omega⟩, (Fr.ob hB0).trans hf4, fun b hb => (hF4 b hb).elim .inl (fun h => .inr (by omega))⟩
    clear hJ4 hf4 hF4 hc
    go_wp2_with fail
    go_end0
    exact ⟨rfl, HF.out⟩


set_option maxRecDepth 100000 in
set_option maxHeartbeats 4000000 in
theorem eachNeed (c : Nat) (J : (Nat → Prop) → List (It Value) → World → Prop) (hW : WalkNeed c J) (E : Nat → Addr) (B : Nat) (t : Lt) (F : Nat → Prop) (w : World) (ht : t.Ok w) (hin : t.In (fun b => ¬ F b)) (hE : Env fuGs B w E) (hJ : J F [] w) :
    Calls Tryz.prog 42 #[nval t, .func (.func 60) #[] #[.pointer (some ⟨c, 0, none⟩)]] w (EachQ J F (listed t) w) := by
  obtain ⟨a, cap, hv⟩ := ht.shape
  have hB2 : Below w.heap.size w ((w.alloc (.cells #[.string t.kind, .string t.data, .bool t.exec, .slice a t.kids.length cap] 32)).alloc (.cells #[.func (.func 60) #[] #[.pointer (some ⟨c, 0, none⟩)]] 96)) := ((Below.refl _ _).alloc (Nat.le_refl _) _).alloc (by simp) _
  have hb1 := (Blk.new w [.string t.kind, .string t.data, .bool t.exec, .slice a t.kids.length cap] 32).alloc (.cells #[.func (.func 60) #[] #[.pointer (some ⟨c, 0, none⟩)]] 96)
  have hb2 := Blk.new (w.alloc (.cells #[.string t.kind, .string t.data, .bool t.exec, .slice a t.kids.length cap] 32)) [.func (.func 60) #[] #[.pointer (some ⟨c, 0, none⟩)]] 96
  rw [show (w.alloc (.cells #[.string t.kind, .string t.data, .bool t.exec, .slice a t.kids.length cap] 32)).heap.size = w.heap.size + 1 by simp] at hb2
  have hC := check_tr E B t _ (ht.ob hB2) (hE.ob hB2).fu
  unfold nval at hC ⊢
  rw [hv] at hC ⊢
  by_cases h0 : treeE t = 0
  · have hl : listed t = pre ⟨#[]⟩ 0 t := if_pos h0
    obtain ⟨f1, f2⟩ := fine_of h0
    rw [h0, evc_zero] at hC
    rw [hl]
    have HC := hidd hC
    have HV := hidd hv
    clear hC hl hv h0
    go_enter Tryz.func42, Tryz.ntmps42
    go_wp2_with fail
    refine HC.out.mono ?_
    rintro e w2 ⟨rfl, hb3⟩
    have hB3 := hB2.trans (hb3.mono hB2.size)
    have hk1 := hb1.below hb3 hb1.lt
    have hk2 := hb2.below hb3 hb2.lt
    have hJ3 := hW.later _ _ _ _ hJ hB3
    have x0 := hk1.cell (i := 0) rfl
    have x1 := hk1.cell (i := 1) rfl
    have x2 := hk1.cell (i := 2) rfl
    have x3 := hk1.cell (i := 3) rfl
    have hbox : BoxNeed c (w.heap.size + 1) J F [] w2 := ⟨hJ3, hk2.cell (i := 0) rfl, fun h => by have := hW.own _ _ _ hJ _ h; omega, hk2.lt⟩
    have hCC := each_any (w.heap.size + 1) Fine (fun x hx => by have := hx.1; omega) (BoxNeed c (w.heap.size + 1) J) (walkerNeed c (w.heap.size + 1) J hW) t.sz t ⟨#[]⟩ 0 F [] w2 (Nat.le_refl _) (ht.ob hB3) hin hbox (by simp; omega) f1
    unfold nval at hCC
    rw [HV.out] at hCC
    have HCC := hidd hCC
    clear hCC hb1 hb2 hB2 hk1 hk2 hbox hJ3 hJ hb3 ht hE
    go_wp2_with fail
    refine HCC.out.mono ?_
    rintro e w4 ⟨rfl, F4, hJ4, hf4, hF4⟩
    have HF : Hid (EachQ J F (pre ⟨#[]⟩ 0 t) w (.returned (.tuple #[])) w4) := hidd ⟨rfl, F4, by simpa using hJ4.1, (Fr.ob hB3).trans hf4, fun b hb => (hF4 b hb).elim .inl (fun h => .inr (by have := hB3.size; omega))⟩
    clear hJ4 hf4 hF4 x0 x1 x2 x3
    go_wp2_with fail
    go_end0
    exact HF.out
  · have hl : listed t = [] := if_neg h0
    rw [evc_ne h0] at hC
    rw [hl]
    have HC := hidd hC
    clear hC hl hv h0
    go_enter Tryz.func42, Tryz.ntmps42
    go_wp2_with fail
    refine HC.out.mono ?_
    rintro e w2 ⟨rfl, hb3⟩
    have hB3 := hB2.trans (hb3.mono hB2.size)
    have HF : Hid (EachQ J F [] w (.returned (.tuple #[])) w2) := hidd ⟨rfl, F, hW.later _ _ _ _ hJ hB3, Fr.ob hB3, fun b hb => .inl hb⟩
    clear hb3 hB2 hb1 hb2 hJ ht hE
    go_wp2_with fail
    go_end0
    exact HF.out

/-- need's variable. -/
def NdJ (c : Nat) (F : Nat → Prop) (l : List (It Value)) (W : World) : Prop := (∀ b, F b ↔ b = c) ∧ Blk W c [.int .i64 ((needS l : Nat) : Int)] 3 ∧ needS l ≤ 512 * l.length
set_option maxRecDepth 100000 in
set_option maxHeartbeats 4000000 in
theorem walkNd (c : Nat) : WalkNeed c (NdJ c) where
  own := fun F l W h b hb => by rw [(h.1 b).1 hb]; exact h.2.1.lt
  later := fun F l W W' h hb => ⟨h.1, h.2.1.below hb h.2.1.lt, h.2.2⟩
  step := fun F l x W h hl hp hx => by
    obtain ⟨a, cap, hv⟩ := hx.shape
    obtain ⟨hF, hb, hbd⟩ := h
    have hdz := hp.2
    have hsn := needS_snoc l x
    have hq := Blk.new W [.string x.n.kind, .string x.n.data, .bool x.n.exec, .slice a x.n.kids.length cap] 32
    have h1 := hb.alloc (.cells #[.string x.n.kind, .string x.n.data, .bool x.n.exec, .slice a x.n.kids.length cap] 32)
    have hB1 : Below W.heap.size W (W.alloc (.cells #[.string x.n.kind, .string x.n.data, .bool x.n.exec, .slice a x.n.kids.length cap] 32)) := (Below.refl _ _).alloc (Nat.le_refl _) _
    have hlt := hb.lt
    unfold nval
    rw [hv]
    by_cases hk : x.n.kind = kFile
    · rw [if_pos hk] at hsn
      have q1 : (x.n.kind.toList == [102, 105, 108, 101]) = true := by rw [hk, kFile_list]; rfl
      have hnl := needN_le _ hdz
      have HND := hidd (fun W => need_nat x.n.data.size W hdz)
      obtain ⟨nd, hnd⟩ : ∃ n, needN x.n.data.size = n := ⟨_, rfl⟩
      rw [hnd] at HND hsn hnl
      have hc := h1.cell (i := 0) rfl
      have hf := h1.frozen 0
      have hcd := h1.drew.cell (i := 0) rfl
      have hfd := h1.drew.frozen 0
      have q1c := hq.cell (i := 1) rfl
      have HP : Hid (∀ W', Fr F (W.alloc (.cells #[.string x.n.kind, .string x.n.data, .bool x.n.exec, .slice a x.n.kids.length cap] 32)) W' → Blk W' c [.int .i64 ((needS l + nd : Nat) : Int)] 3 → ∃ F', NdJ c F' (l ++ [x]) W' ∧ Fr F W W' ∧ ∀ b, F' b → F b ∨ W.heap.size ≤ b) := hidd (fun W' hf' hb' =>
        ⟨F, ⟨hF, by rw [hsn]; exact hb', by rw [hsn]; simp only [List.length_append, List.length_cons, List.length_nil]; omega⟩, (Fr.ob hB1).trans hf', fun b hb => .inl hb⟩)
      have H1 := hidd h1
      have hnz : needS l ≤ 1000000 := by omega
      have HF := hidd hF
      generalize needS l = n at *
      have hwr : IntKind.i64.wrap ((n : Int) + (nd : Int)) = ((n + nd : Nat) : Int) := by rw [i64_in _ (by omega)]; omega
      clear h1 hv hp hx hsn hk hbd hb hq hB1 hF hnd
      go_enter Tryz.func60, Tryz.ntmps60
      go_upto_region 2 with fail
      generalize W.alloc (.cells #[.string x.n.kind, .string x.n.data, .bool x.n.exec, .slice a x.n.kids.length cap] 32) = w1 at *
      go_region_law (first | (go_simp; go_at_call 61; refine (HND.out _).mono ?_; rintro e w9 ⟨rfl, rfl⟩))
      all_goals
        have hs := (H1.out.set 0 (.int .i64 ((n : Int) + (nd : Int)))).drew
        have hfr : Fr F w1 (w1.setCell ⟨c, 0, none⟩ (.int .i64 ((n : Int) + (nd : Int)))).drew := ((Fr.refl F w1).setCell (p := ⟨c, 0, none⟩) (.inl ((HF.out c).2 rfl)) _).drew
        have HQ := hidd (HP.out _ hfr (by rw [Int.natCast_add]; exact hs))
        clear hs hfr
        go_wp2_with fail
        go_end0
        exact ⟨rfl, HQ.out⟩
    · rw [if_neg hk] at hsn
      have q1 : (x.n.kind.toList == [102, 105, 108, 101]) = false := by rw [← kFile_list]; exact beq_str hk
      have HP : Hid (∃ F', NdJ c F' (l ++ [x]) (W.alloc (.cells #[.string x.n.kind, .string x.n.data, .bool x.n.exec, .slice a x.n.kids.length cap] 32)) ∧ Fr F W (W.alloc (.cells #[.string x.n.kind, .string x.n.data, .bool x.n.exec, .slice a x.n.kids.length cap] 32)) ∧ ∀ b, F' b → F b ∨ W.heap.size ≤ b) := hidd
        ⟨F, ⟨hF, by rw [hsn]; exact h1, by rw [hsn]; simp only [List.length_append, List.length_cons, List.length_nil]; omega⟩, (Fr.refl F W).alloc _, fun b hb => .inl hb⟩
      clear h1 hv hp hx hsn hk hbd hb hq hB1
      go_enter Tryz.func60, Tryz.ntmps60
      go_wp2_with fail
      go_end0
      exact ⟨rfl, HP.out⟩

set_option maxRecDepth 100000 in
theorem need_dany (E : Nat → Addr) (B : Nat) (t : Lt) (w : World) (ht : t.Ok w) (hE : Env fuGs B w E) :
    Calls Tryz.prog 30 #[nval t] w fun e w' => e = .returned (.int .i64 ((needS (listed t) : Nat) : Int)) ∧ Below w.heap.size w w' ∧ needS (listed t) ≤ 512000 := by
  obtain ⟨a, cap, hv⟩ := ht.shape
  have hB2 : Below w.heap.size w ((w.alloc (.cells #[.string t.kind, .string t.data, .bool t.exec, .slice a t.kids.length cap] 32)).alloc (.cells #[.int .i64 0] 3)) := ((Below.refl _ _).alloc (Nat.le_refl _) _).alloc (by simp) _
  have hb2 := Blk.new (w.alloc (.cells #[.string t.kind, .string t.data, .bool t.exec, .slice a t.kids.length cap] 32)) [.int .i64 ((0 : Nat) : Int)] 3
  rw [show (w.alloc (.cells #[.string t.kind, .string t.data, .bool t.exec, .slice a t.kids.length cap] 32)).heap.size = w.heap.size + 1 by simp] at hb2
  have hC := eachNeed (w.heap.size + 1) (NdJ (w.heap.size + 1)) (walkNd _) E B t (fun b => b = w.heap.size + 1) _ (ht.ob hB2) (in_mono (fun b hb h => by omega) t (ok_in t ht)) (hE.ob hB2) ⟨fun _ => Iff.rfl, hb2, by simp [needS]⟩
  have hln : (listed t).length ≤ 1000 := by
    unfold listed
    by_cases h0 : treeE t = 0
    · rw [if_pos h0, pre_len]; have := (fine_of h0).2; omega
    · rw [if_neg h0]; simp
  have HLN := hidd hln
  unfold nval at hC ⊢
  rw [hv] at hC ⊢
  have HC := hidd hC
  clear hC hv ht hE hb2 hln
  obtain ⟨L, hL⟩ : ∃ L, listed t = L := ⟨_, rfl⟩
  rw [hL] at HC HLN ⊢
  clear hL
  obtain ⟨n, hn⟩ : ∃ n, needS L = n := ⟨_, rfl⟩
  rw [hn]
  have HN := hidd hn
  clear hn
  go_enter Tryz.func30, Tryz.ntmps30
  go_wp2_with fail
  refine HC.out.mono ?_
  rintro e w2 ⟨rfl, F', ⟨hF1, hF2, hF3⟩, hf, hFF⟩
  have hB := hB2.trans (hf.below (B := w.heap.size) (by simp; omega) (fun b hb => by omega))
  rw [HN.out] at hF2 hF3
  have hc := hF2.cell (i := 0) rfl
  have HB : Hid (n ≤ 512000) := hidd (by have := HLN.out; omega)
  clear hf hFF hF1 hF2 hF3
  go_wp2_with fail
  go_ret
  exact ⟨rfl, hB, HB.out⟩
end Go.Proofs.YtoemahhpheobkaaGreatDoor

namespace Go.Proofs.YtoemahhpheobkaaGreatDoor
open Go.RowKit Go.Shelf

theorem sum_take {α : Type} (f : α → Nat) {l : List α} {j : Nat} (hj : j < l.length) : ((l.take j).map f).sum + f l[j] ≤ (l.map f).sum := by
  have h : l = l.take j ++ l[j] :: l.drop (j + 1) := by rw [← List.drop_eq_getElem_cons hj, List.take_append_drop]
  have h2 : (l.map f).sum = ((l.take j ++ l[j] :: l.drop (j + 1)).map f).sum := congrArg (fun l => (l.map f).sum) h
  rw [h2, List.map_append, List.sum_append, List.map_cons, List.sum_cons]
  omega
/-- A file of a tree that is well: small, of a short path. -/
theorem file_fine {t : Lt} (h : treeE t = 0) {x : List ByteArray × Lt} (hx : x ∈ filesR t) : x.2.data.size ≤ 2000 ∧ (pathOf (jt x.1)).size ≤ 1001 := by
  have hx' := (List.mem_filter.1 hx).1
  have hm : (⟨⟨#[]⟩ ++ jt x.1, 0 + x.1.length, x.2⟩ : It Value) ∈ pre ⟨#[]⟩ 0 t := by rw [pre_R]; exact List.mem_map.2 ⟨x, hx', rfl⟩
  have h1 := (fine_of h).1 _ hm
  have h2 := pathOf_le (jt x.1)
  have h3 : ((⟨#[]⟩ : ByteArray) ++ jt x.1) = jt x.1 := ba_inj (by simp)
  obtain ⟨h4, h5⟩ := h1
  simp only at h4 h5
  rw [h3] at h4
  exact ⟨h5, by omega⟩
theorem dmF_put (D : Nat → Option Dt) (k : Nat) (e : Dt) : dmF (updD D k (some e)) = fun i => if i = (k : Int) then some (entV e) else dmF D i := by
  funext i
  unfold dmF updD
  by_cases h : i = (k : Int)
  · subst h; simp
  · rw [if_neg h]
    by_cases h0 : 0 ≤ i
    · rw [if_pos h0, if_pos h0, if_neg (by omega)]
    · rw [if_neg h0, if_neg h0]
theorem MapD.store {w : World} {m n : Nat} {D : Nat → Option Dt} (h : MapD w m n D) (hn : n ≤ 1000000) (k : Nat) (e : Dt) (hk : K64 (k : Int)) :
    ∃ w', (Instr.mapUpdate 76 (.map (some m)) (.int .i64 (k : Int)) (entV e)).run Tryz.prog w = .ok () w' ∧ MapD w' m (n + 1) (updD D k (some e)) ∧ Fr (fun b => b = m) w w' := by
  obtain ⟨vals, h0, h1⟩ := h
  obtain ⟨w', hr, h2, h3⟩ := (h1.grow [entV e]).store (e := 83) Tryz.underlying76 hn (k : Int) (entV e) (by simp) hk
  exact ⟨w', hr, ⟨vals ++ [entV e], List.mem_append_left _ h0, by rw [dmF_put]; exact h2⟩, h3⟩
/-- A new tree of the dirs. -/
def putS (s : St) (e : Dt) : St := { s with nm := s.nm + 1, D := updD s.D s.nx (some e), nx := s.nx + 1 }
theorem DiM.put {pc : Prop} {w w' : World} {L : Loc} {s : St} {e : Dt} (h : DiM pc w L s) (hf : Fr (fun b => b = L.mb ∨ b = L.d) w w') (hmp : MapD w' L.mb (s.nm + 1) (updD s.D s.nx (some e)))
    (hbk : Blk w' L.d [.pointer (some ⟨L.t, 0, none⟩), .map (some L.mb), .int .i64 ((s.nx + 1 : Nat) : Int)] 78) (hfm : MapF w' e.fm s.N e.F) (htr : e.tr.Ok w') (hin : e.tr.In (fun b => ¬ diS L s b ∧ b ≠ e.fm))
    (hB : L.B ≤ e.fm) (hne : notTb L s.T e.fm ∧ e.fm ≠ L.d ∧ e.fm ≠ L.mb ∧ ∀ k f, s.D k = some f → e.fm ≠ f.fm) (hno : ∀ k f, s.D k = some f → f.tr.In (fun b => b ≠ e.fm)) : DiM pc w' L (putS s e) := by
  have hmb : notTb L s.T L.mb := notTb_map h.tb h.mp.noc h.ne.1
  have hd : notTb L s.T L.d := notTb_dir h.tb h.bk
  have hdS : ∀ b, diS L (putS s e) b → diS L s b ∨ b = e.fm := by
    rintro b (hb | hb | hb | ⟨i, f, hi, rfl⟩)
    · exact .inl (.inl hb)
    · exact .inl (.inr (.inl hb))
    · exact .inl (.inr (.inr (.inl hb)))
    · rcases updD_cases hi with ⟨rfl, h1⟩ | ⟨-, h1⟩
      · cases h1; exact .inr rfl
      · exact .inl (.inr (.inr (.inr ⟨i, f, h1, rfl⟩)))
  exact {
    tb := tb_fr h.tb hf (fun b hb => by rcases hb with rfl | rfl; exact hmb; exact hd)
    bk := hbk
    mp := hmp
    fms := fun i f hi => by
      rcases updD_cases hi with ⟨rfl, h1⟩ | ⟨h2, h1⟩
      · cases h1; exact hfm
      · refine (h.fms i f h1).fr hf (fun hb => ?_)
        rcases hb with hb | hb
        · exact (h.ne.2 i f h1).2 hb
        · exact noc_blk h.bk (h.fms i f h1).noc hb
    tr := fun i f hi => by
      rcases updD_cases hi with ⟨rfl, h1⟩ | ⟨h2, h1⟩
      · cases h1; exact htr
      · exact ok_fr hf _ (h.tr i f h1) (in_mono (fun b hb e' => by
          rcases e' with e' | e'
          · exact hb (.inr (.inr (.inl e')))
          · exact hb (.inr (.inl e'))) _ (h.inn i f h1))
    inn := fun i f hi => by
      rcases updD_cases hi with ⟨rfl, h1⟩ | ⟨h2, h1⟩
      · cases h1
        exact in_mono (fun b hb e' => (hdS b e').elim hb.1 hb.2) _ hin
      · exact in_mono (fun b hb e' => (hdS b e').elim hb.1 hb.2) _ (in_and _ (h.inn i f h1) (hno i f h1))
    ne := ⟨h.ne.1, fun i f hi => by
      rcases updD_cases hi with ⟨rfl, h1⟩ | ⟨h2, h1⟩
      · cases h1; exact ⟨hne.1.2.2.2.2.2.1, hne.2.2.1⟩
      · exact h.ne.2 i f h1⟩
    inj := fun i j f g hi hj hij => by
      rcases updD_cases hi with ⟨rfl, h1⟩ | ⟨h2, h1⟩
      · rcases updD_cases hj with ⟨rfl, k1⟩ | ⟨k2, k1⟩
        · exact absurd rfl hij
        · cases h1; exact hne.2.2.2 j g k1
      · rcases updD_cases hj with ⟨rfl, k1⟩ | ⟨k2, k1⟩
        · cases k1; exact fun e' => hne.2.2.2 i f h1 e'.symm
        · exact h.inj i j f g h1 k1 hij
    base := ⟨h.base.1, h.base.2.1, fun i f hi => by
      rcases updD_cases hi with ⟨rfl, h1⟩ | ⟨h2, h1⟩
      · cases h1; exact hB
      · exact h.base.2.2 i f h1⟩
    far := fun i hi => by
      have hi' : s.nx + 1 ≤ i := hi
      show updD s.D s.nx _ i = none
      rw [updD_other _ _ _ (by omega)]
      exact h.far i (by omega)
    sz := h.sz }

/-- What Put reads behind its calls. -/
structure PtK (w : World) (kd da : ByteArray) (ex : Bool) (ta : Option Addr) (tn tc : Nat) (W : World) : Prop where
  bel : Below w.heap.size w W
  bx : Blk W w.heap.size [.string kd, .string da, .bool ex, .slice ta tn tc] 32
theorem PtK.later {w : World} {kd da : ByteArray} {ex : Bool} {ta : Option Addr} {tn tc : Nat} {W W' : World} (h : PtK w kd da ex ta tn tc W) (hb : Below W.heap.size W W') : PtK w kd da ex ta tn tc W' := ⟨h.bel.trans (hb.mono h.bel.size), h.bx.below hb h.bx.lt⟩
/-- The loop of Put. -/
structure PtL (pc : Prop) (L : Loc) (s : St) (t : Lt) (w : World) (kd da : ByteArray) (ex : Bool) (ta : Option Addr) (tn tc : Nat) (mf : Nat) (fa : Option Addr) (fc : Nat) (k : Nat) (Tk : Nat → Option Ino) (uk : List Bool) (lk : List ByteArray) (Fk : ByteArray → Option Nat) (wr : World) : Prop where
  le : k ≤ (filesR t).length
  bx : Blk wr w.heap.size [.string kd, .string da, .bool ex, .slice ta tn tc] 32
  rows : Ow (fun g => w.heap.size ≤ g) wr 9 1 (.slice fa (filesR t).length fc) (filesR t).length (tcells ((filesR t).map fun x => pathOf (jt x.1)))
  mp : MapF wr mf k Fk
  mfl : w.heap.size ≤ mf
  tb : TbAt pc wr L.B L.t L.p L.r L.ps L.rs L.m (s.N + k) Tk uk lk
  sz : Sz lk []
  j : PutJ (filesR t) s.T s.us k Tk uk Fk
  fr : Fr (fun b => b = L.p ∨ b = L.r ∨ b = L.rs ∨ b = L.m) w wr
  new : ∀ b, tbS L.p L.r L.rs L.m Tk b → tbS L.p L.r L.rs L.m s.T b ∨ w.heap.size ≤ b
end Go.Proofs.YtoemahhpheobkaaGreatDoor

namespace Go.Proofs.YtoemahhpheobkaaGreatDoor
open Go.RowKit Go.Shelf

theorem filesR_le {t : Lt} (h : treeE t = 0) : (filesR t).length ≤ 200 := by
  have h5 : (filesR t).length ≤ (preR t).length := List.length_filter_le _ _
  have h7 := pre_len ⟨#[]⟩ 0 t
  rw [pre_R, List.length_map] at h7
  have := (fine_of h).2
  omega
set_option maxRecDepth 100000 in
set_option maxHeartbeats 4000000 in
theorem dput_bad (E : Nat → Addr) (B : Nat) (d : Value) (t : Lt) (w : World) (ht : t.Ok w) (hE : Env diGs B w E) (h0 : treeE t ≠ 0) :
    Calls Tryz.prog 8 #[d, nval t] w fun e w' => e = .returned (.tuple #[.int .i64 0, evc E (treeE t)]) ∧ Below w.heap.size w w' := by
  obtain ⟨a, cap, hv⟩ := ht.shape
  have hB0 : Below w.heap.size w (w.alloc (.cells #[.string t.kind, .string t.data, .bool t.exec, .slice a t.kids.length cap] 32)) := (Below.refl _ _).alloc (Nat.le_refl _) _
  have hC := check_tr E B t _ (ht.ob hB0) (hE.ob hB0).di
  unfold nval at hC ⊢
  rw [hv] at hC ⊢
  rw [evc_ne h0] at hC ⊢
  have HC := hidd hC
  have HB0 := hidd hB0
  clear hC ht hE hv h0 hB0
  go_enter Tryz.func8, Tryz.ntmps8
  go_wp2_with fail
  refine HC.out.mono ?_
  rintro e w2 ⟨rfl, hb2⟩
  have HB2 := hidd (HB0.out.trans (hb2.mono HB0.out.size))
  clear hb2
  go_wp2_with fail
  go_ret2
  exact ⟨rfl, HB2.out⟩

set_option maxRecDepth 100000 in
set_option maxHeartbeats 4000000 in
theorem dput_full {pc : Prop} (E : Nat → Addr) (B : Nat) (L : Loc) (s : St) (t : Lt) (w : World) (ht : t.Ok w) (h : DiM pc w L s) (hE : Env diGs B w E) (h0 : treeE t = 0) (hf : nfree s.us < needS (listed t)) :
    Calls Tryz.prog 8 #[.pointer (some ⟨L.d, 0, none⟩), nval t] w fun e w' => e = .returned (.tuple #[.int .i64 0, .iface 249 (.pointer (some (E 0)))]) ∧ Below w.heap.size w w' := by
  obtain ⟨a, cap, hv⟩ := ht.shape
  have hB0 : Below w.heap.size w (w.alloc (.cells #[.string t.kind, .string t.data, .bool t.exec, .slice a t.kids.length cap] 32)) := (Below.refl _ _).alloc (Nat.le_refl _) _
  have hC := check_tr E B t _ (ht.ob hB0) (hE.ob hB0).di
  rw [h0, evc_zero] at hC
  have HND := hidd (fun W (hW : PtK w t.kind t.data t.exec a t.kids.length cap W) => need_dany E B t W (ht.ob hW.bel) ((hE.ob hW.bel).di))
  have HFR := hidd (fun W (hW : PtK w t.kind t.data t.exec a t.kids.length cap W) => ifree_any L.t L.p L.ps L.rs L.m s.us W (h.low hW.bel).tb.tab (h.low hW.bel).tb.sp)
  have HEE := hidd (fun W (hW : Below w.heap.size w W) => (hE.ob hW).cell _ di_full)
  have HC0 := hidd (fun W (hW : PtK w t.kind t.data t.exec a t.kids.length cap W) => (h.low hW.bel).c0)
  have hx := Blk.new w [.string t.kind, .string t.data, .bool t.exec, .slice a t.kids.length cap] 32
  have HK0 : Hid (PtK w t.kind t.data t.exec a t.kids.length cap (w.alloc (.cells #[.string t.kind, .string t.data, .bool t.exec, .slice a t.kids.length cap] 32))) := hidd ⟨hB0, hx⟩
  unfold erv at HEE
  unfold nval at hC HND ⊢
  rw [hv] at hC HND ⊢
  have HC := hidd hC
  obtain ⟨n, hn⟩ : ∃ n, needS (listed t) = n := ⟨_, rfl⟩
  obtain ⟨fr, hfr⟩ : ∃ n, nfree s.us = n := ⟨_, rfl⟩
  rw [hn] at HND
  rw [hfr] at HFR
  have hlt : fr < n := by omega
  have q1 : (fr : Int) < (n : Int) := by omega
  clear hC ht hE hv h0 hB0 h hf hn hfr hx
  go_enter Tryz.func8, Tryz.ntmps8
  go_wp2_with fail
  refine HC.out.mono ?_
  rintro e w2 ⟨rfl, hb2⟩
  have hK2 := HK0.out.later hb2
  have HK2 := hidd hK2
  have HKC : Hid (∀ W, PtK w t.kind t.data t.exec a t.kids.length cap W → W.cell? ⟨L.d, 0, none⟩ = some (.pointer (some ⟨L.t, 0, none⟩)) ∧ W.cell? ⟨w.heap.size, 0, none⟩ = some (.string t.kind) ∧ W.cell? ⟨w.heap.size, 1, none⟩ = some (.string t.data) ∧ W.cell? ⟨w.heap.size, 2, none⟩ = some (.bool t.exec) ∧ W.cell? ⟨w.heap.size, 3, none⟩ = some (.slice a t.kids.length cap)) := hidd (fun W hW => ⟨HC0.out W hW, hW.bx.cell rfl, hW.bx.cell rfl, hW.bx.cell rfl, hW.bx.cell rfl⟩)
  clear hb2 hK2 HK0 HC
  go_upto_region 4 with fail
  have hKd := HK2.out.later (Below.refl _ _).drew
  go_wp2_with fail
  go_region_held3 (fun W => W.cell? ⟨L.d, 0, none⟩ = some (.pointer (some ⟨L.t, 0, none⟩)) ∧ W.cell? ⟨w.heap.size, 0, none⟩ = some (.string t.kind) ∧ W.cell? ⟨w.heap.size, 1, none⟩ = some (.string t.data) ∧ W.cell? ⟨w.heap.size, 2, none⟩ = some (.bool t.exec) ∧ W.cell? ⟨w.heap.size, 3, none⟩ = some (.slice a t.kids.length cap))
    (first | exact HKC.out _ (by assumption))
    (first
      | (go_at_call 30; (with_reducible refine (HND.out _ (by assumption)).mono ?_); rintro e w9 ⟨rfl, hb9, -⟩; have hK9 := PtK.later (by assumption) hb9)
      | (go_at_call 21; (with_reducible refine (HFR.out _ (by assumption)).mono ?_); rintro e w9 ⟨rfl, hb9⟩; have hK9 := PtK.later (by assumption) hb9))
  all_goals
    have hB9 := hK9.bel
    have g1 := HEE.out w9 hB9
    have HB9 := hidd hB9
    clear hK9 hb9 hB9
    go_wp2_with fail
    go_quiet (fail)
    go_wp2_with fail
    go_ret2
    exact ⟨rfl, HB9.out.trans (Below.drewN _ _ _)⟩

/-- What a Put leaves. -/
def PtP (pc : Prop) (L : Loc) (s : St) (t : Lt) (w : World) (e : Ending) (w' : World) : Prop :=
  e = .returned (.tuple #[.int .i64 (s.nx : Int), .nilIface]) ∧ Fr (diS L s) w w' ∧ ∃ (e' : Dt) (s1 : St), e'.src = t.bare ∧ e'.tr.In (fun b => w.heap.size ≤ b) ∧ s1.D = s.D ∧ s1.nx = s.nx ∧ s1.nm = s.nm ∧ s1.N = s.N + (filesR t).length ∧ (∀ m x, s.T m = some x → s1.T m = some x) ∧ nfree s1.us + needS (listed t) = nfree s.us ∧
    DiAt pc w' L (putS s1 e') ∧ (∀ b, diS L (putS s1 e') b → diS L s b ∨ w.heap.size ≤ b)

set_option maxRecDepth 100000 in
set_option maxHeartbeats 16000000 in
theorem dput_ok {pc : Prop} (E : Nat → Addr) (B : Nat) (L : Loc) (s : St) (t : Lt) (w : World) (ht : t.Ok w) (hti : t.In (fun b => ¬ diS L s b)) (h : DiAt pc w L s) (hE : Env diGs B w E) (hEB : B ≤ L.B) (hM : Ml w) (hMl : 10 < L.B) (hLB : L.B ≤ w.heap.size) (hN : s.N ≤ 500000) (hnm : s.nm ≤ 500000) (hnx : s.nx ≤ 500000) (h0 : treeE t = 0) (hf : needS (listed t) ≤ nfree s.us) :
    Calls Tryz.prog 8 #[.pointer (some ⟨L.d, 0, none⟩), nval t] w (PtP pc L s t w) := by
  obtain ⟨a, cap, hv⟩ := ht.shape
  have hB0 : Below w.heap.size w (w.alloc (.cells #[.string t.kind, .string t.data, .bool t.exec, .slice a t.kids.length cap] 32)) := (Below.refl _ _).alloc (Nat.le_refl _) _
  have hC := check_tr E B t _ (ht.ob hB0) (hE.ob hB0).di
  rw [h0, evc_zero] at hC
  have HND := hidd (fun W (hW : PtK w t.kind t.data t.exec a t.kids.length cap W) => need_dany E B t W (ht.ob hW.bel) ((hE.ob hW.bel).di))
  have HFR := hidd (fun W (hW : PtK w t.kind t.data t.exec a t.kids.length cap W) => ifree_any L.t L.p L.ps L.rs L.m s.us W (h.low hW.bel).tb.tab (h.low hW.bel).tb.sp)
  have HC0 := hidd (fun W (hW : PtK w t.kind t.data t.exec a t.kids.length cap W) => (h.low hW.bel).c0)
  have HFL := hidd (fun W (hW : Below w.heap.size w W) => files_any E B t W (ht.ob hW) (hE.ob hW).di)
  have hx := Blk.new w [.string t.kind, .string t.data, .bool t.exec, .slice a t.kids.length cap] 32
  have HK0 : Hid (PtK w t.kind t.data t.exec a t.kids.length cap (w.alloc (.cells #[.string t.kind, .string t.data, .bool t.exec, .slice a t.kids.length cap] 32))) := hidd ⟨hB0, hx⟩
  unfold nval at hC HND HFL ⊢
  rw [hv] at hC HND HFL ⊢
  have HC := hidd hC
  obtain ⟨n, hn⟩ : ∃ n, needS (listed t) = n := ⟨_, rfl⟩
  obtain ⟨fr, hfr⟩ : ∃ n, nfree s.us = n := ⟨_, rfl⟩
  rw [hn] at HND
  rw [hfr] at HFR
  have q1 : ¬ ((fr : Int) < (n : Int)) := by omega
  have HH := hidd h
  have HQ := hidd (⟨ht, hti, hE, hM⟩ : t.Ok w ∧ t.In (fun b => ¬ diS L s b) ∧ Env diGs B w E ∧ Ml w)
  have HZ := hidd (⟨h0, hf, hv⟩ : treeE t = 0 ∧ needS (listed t) ≤ nfree s.us ∧ t.v = .slice a t.kids.length cap)
  have hfl := fileL_R h0
  rw [hfl] at HFL
  have HND2 : Hid (((filesR t).map fun x => pathOf (jt x.1)).Nodup) := hidd (by rw [← hfl]; exact fileL_nodup h0)
  clear hC ht hE hv h0 hB0 h hf hn hfr hx hM hti hfl
  go_enter Tryz.func8, Tryz.ntmps8
  go_wp2_with fail
  refine HC.out.mono ?_
  rintro e w2 ⟨rfl, hb2⟩
  have hK2 := HK0.out.later hb2
  have HK2 := hidd hK2
  have HKC : Hid (∀ W, PtK w t.kind t.data t.exec a t.kids.length cap W → W.cell? ⟨L.d, 0, none⟩ = some (.pointer (some ⟨L.t, 0, none⟩)) ∧ W.cell? ⟨w.heap.size, 0, none⟩ = some (.string t.kind) ∧ W.cell? ⟨w.heap.size, 1, none⟩ = some (.string t.data) ∧ W.cell? ⟨w.heap.size, 2, none⟩ = some (.bool t.exec) ∧ W.cell? ⟨w.heap.size, 3, none⟩ = some (.slice a t.kids.length cap)) := hidd (fun W hW => ⟨HC0.out W hW, hW.bx.cell rfl, hW.bx.cell rfl, hW.bx.cell rfl, hW.bx.cell rfl⟩)
  clear hb2 hK2 HK0 HC
  go_upto_region 4 with fail
  have hKd := HK2.out.later (Below.refl _ _).drew
  go_wp2_with fail
  go_region_held3 (fun W => W.cell? ⟨L.d, 0, none⟩ = some (.pointer (some ⟨L.t, 0, none⟩)) ∧ W.cell? ⟨w.heap.size, 0, none⟩ = some (.string t.kind) ∧ W.cell? ⟨w.heap.size, 1, none⟩ = some (.string t.data) ∧ W.cell? ⟨w.heap.size, 2, none⟩ = some (.bool t.exec) ∧ W.cell? ⟨w.heap.size, 3, none⟩ = some (.slice a t.kids.length cap))
    (first | exact HKC.out _ (by assumption))
    (first
      | (go_at_call 30; (with_reducible refine (HND.out _ (by assumption)).mono ?_); rintro e w9 ⟨rfl, hb9, -⟩; have hK9 := PtK.later (by assumption) hb9)
      | (go_at_call 21; (with_reducible refine (HFR.out _ (by assumption)).mono ?_); rintro e w9 ⟨rfl, hb9⟩; have hK9 := PtK.later (by assumption) hb9))
  all_goals
    have HK9 := hidd hK9
    have x9 := (HKC.out _ hK9).2
    obtain ⟨x0, x1, x2, x3⟩ := x9
    have hB9 := hK9.bel
    clear hK9 hb9 HFR HC0 HKC HK2 HND
    clear hKd
    have hy := HK9.out.bx.alloc (.map #[] 0)
    have hB10 : Below w.heap.size w (w9.alloc (.map #[] 0)) := hB9.alloc hB9.size _
    have hm10 : MapF (w9.alloc (.map #[] 0)) w9.heap.size 0 (fun _ => none) := ⟨[.int .i64 0], ⟨by simp, fun v hv => ⟨0, by simpa using hv⟩⟩, MapS.new _ _⟩
    have hz9 : w.heap.size ≤ w9.heap.size := hB9.size
    have y0 := hy.cell (i := 0) rfl
    have y1 := hy.cell (i := 1) rfl
    have y2 := hy.cell (i := 2) rfl
    have y3 := hy.cell (i := 3) rfl
    have HB10 := hidd hB10
    have HM10 := hidd hm10
    have HY := hidd hy
    clear x0 x1 x2 x3 hB9 hB10 hm10 hy
    have hmk : (Sem.run Tryz.prog (Instr.makeMap 79 none) w9) = .ok (.map (some w9.heap.size)) (w9.alloc (.map #[] 0)) := rfl
    go_wp2_with fail
    clear hmk
    refine (HFL.out _ HB10.out).mono ?_
    rintro e w11 ⟨v, rfl, hof, hb11⟩
    have hof' : Ow (fun g => w.heap.size ≤ g) w11 9 1 v (filesR t).length (tcells ((filesR t).map fun x => pathOf (jt x.1))) := by
      have := hof.mono (F' := fun g => w.heap.size ≤ g) (fun g hg => by have := HB10.out.size; omega)
      rw [List.length_map] at this
      exact this
    obtain ⟨fa, fc, rfl⟩ := hof'.shape
    have hB11 := HB10.out.trans (hb11.mono HB10.out.size)
    have HI0 : Hid (PtL pc L s t w t.kind t.data t.exec a t.kids.length cap w9.heap.size fa fc 0 s.T s.us s.ls (fun _ => none) w11) := hidd ⟨Nat.zero_le _, HY.out.below hb11 HY.out.lt, hof', HM10.out.low hb11, hz9, (HH.out.low hB11).tb, HH.out.sz, PutJ.zero _ _ _, Fr.ob hB11, fun b hb => .inl hb⟩
    clear hof hof' y0 y1 y2 y3 hb11 HM10 HY hB11 HB10 HFL HK9
    obtain ⟨m, hm⟩ : ∃ m, (filesR t).length = m := ⟨_, rfl⟩
    have HMM := hidd hm
    try rw [List.length_map]
    rw [hm]
    clear hm
    go_wp2_with fail
    go_loopw [9, 10, 11, 30] (fun _ _ _ i wr => ∃ (k : Nat) (Tk : Nat → Option Ino) (uk : List Bool) (lk : List ByteArray) (Fk : ByteArray → Option Nat), i = .int .i64 (k : Int) ∧ PtL pc L s t w t.kind t.data t.exec a t.kids.length cap w9.heap.size fa fc k Tk uk lk Fk wr) (fun _ _ _ i _ => m - (intOf i).toNat)
    case atStart => exact ⟨0, s.T, s.us, s.ls, _, rfl, HI0.out⟩
    case round =>
      obtain ⟨k, Tk, uk, lk, Fk, rfl, hI⟩ := hrel
      clear HI0
      have hk := hI.le
      have hm2 : m ≤ 200 := by rw [← HMM.out]; exact filesR_le HZ.out.1
      rw [HMM.out] at hk
      by_cases hlt : k < m
      · have hlt' : k < (filesR t).length := by rw [HMM.out]; exact hlt
        have hpl : ∀ b, (b = L.p ∨ b = L.r ∨ b = L.rs ∨ b = L.m) → L.B ≤ b ∧ b < w.heap.size ∧ tbS L.p L.r L.rs L.m s.T b := by
          have hb := HH.out.tb.base
          obtain ⟨n0, -, hmm⟩ := HH.out.tb.mp
          rintro b (rfl | rfl | rfl | rfl)
          · exact ⟨hb.1, HH.out.tb.dk.head.lt, .inl rfl⟩
          · exact ⟨hb.2.1, HH.out.tb.dk.row.lt, .inr (.inl rfl)⟩
          · exact ⟨hb.2.2.2.1, HH.out.tb.sp.row.lt, .inr (.inr (.inl rfl))⟩
          · exact ⟨hb.2.2.2.2.1, hmm.lt, .inr (.inr (.inr (.inl rfl)))⟩
        have hbr : Below L.B w wr := hI.fr.below hLB (fun b hb => (hpl b hb).1)
        have htr : t.Ok wr := ok_fr hI.fr _ HQ.out.1 (in_mono (fun b hb e' => hb (.inl (hpl b e').2.2)) _ HQ.out.2.1)
        have hEr : Env diGs B wr E := HQ.out.2.2.1.below hbr hEB
        have hMr : Ml wr := by
          obtain ⟨mv, hmv⟩ := HQ.out.2.2.2
          exact ⟨mv, (hbr.cell (p := ⟨10, 0, none⟩) hMl).trans hmv⟩
        obtain ⟨b, off, rfl, hbw, hcl, hrd⟩ := hI.rows.sl.at1 hlt'
        obtain ⟨hg1, -⟩ := filesR_get HZ.out.1 (List.getElem_mem hlt')
        obtain ⟨hf1, hf2⟩ := file_fine HZ.out.1 (List.getElem_mem hlt')
        have hcs : (tcells ((filesR t).map fun x => pathOf (jt x.1)))[k] = .string (pathOf (jt (filesR t)[k].1)) := by simp [tcells]
        rw [hcs] at hrd
        have hG := get_any E B t (pathOf (jt (filesR t)[k].1)) wr htr hEr.di hMr (by omega)
        unfold nval at hG
        rw [HZ.out.2.2] at hG
        have HGO := hidd hg1
        have hnd : needN (filesR t)[k].2.data.size ≤ nfree uk := by
          have h1 : nfree uk + (((filesR t).take k).map fun x => needN x.2.data.size).sum = nfree s.us := hI.j.fre
          have h2 : (((filesR t).take k).map fun x => needN x.2.data.size).sum + needN (filesR t)[k].2.data.size ≤ ((filesR t).map fun x => needN x.2.data.size).sum := sum_take (fun x : List ByteArray × Lt => needN x.2.data.size) hlt'
          have h3 := HZ.out.2.1
          rw [needS_R HZ.out.1] at h3
          omega
        have HND3 := hidd hnd
        have HF1 := hidd hf1
        have hc0 : wr.cell? ⟨L.d, 0, none⟩ = some (.pointer (some ⟨L.t, 0, none⟩)) := by
          refine hI.fr.cell HH.out.c0 (fun e' => ?_)
          have h1 := tbS_cells (notTb_dir HH.out.tb HH.out.bk)
          exact h1 (hpl _ e').2.2
        obtain ⟨q, hq⟩ : ∃ q, pathOf (jt (filesR t)[k].1) = q := ⟨_, rfl⟩
        have HQQ := hidd hq
        rw [hq] at hrd hG HGO hf2
        have HG := hidd hG
        have x0 := hI.bx.cell (i := 0) rfl
        have x1 := hI.bx.cell (i := 1) rfl
        have x2 := hI.bx.cell (i := 2) rfl
        have x3 := hI.bx.cell (i := 3) rfl
        have p1 : (0 : Int) ≤ (k : Int) := by omega
        have p2 : (k : Int) < (m : Int) := by omega
        have HI := hidd hI
        have HPL := hidd hpl
        clear hpl hbr htr hEr hMr hG hg1 hf1 hcs hnd hq hcl hI
        go_wp2_with fail
        refine HG.out.mono ?_
        rintro e w3 ⟨hb3, hr⟩
        rcases hr with ⟨c, hc1, -⟩ | ⟨x, y, hx, -, heq, hyb, hyo, -⟩
        · rw [HGO.out] at hc1; cases hc1
        rw [HGO.out] at hx
        obtain rfl := Except.ok.inj hx
        have hyd : y.data = (filesR t)[k].2.data := by
          have := congrArg Tr.data hyb
          rw [show y.bare.data = y.data from Tr.data_map _ _, show (filesR t)[k].2.bare.data = (filesR t)[k].2.data from Tr.data_map _ _] at this
          exact this
        have hye : y.exec = (filesR t)[k].2.exec := by
          have := congrArg Tr.exec hyb
          rw [show y.bare.exec = y.exec from Tr.exec_map _ _, show (filesR t)[k].2.bare.exec = (filesR t)[k].2.exec from Tr.exec_map _ _] at this
          exact this
        obtain ⟨ya, yc, hyv⟩ := hyo.shape
        obtain ⟨ky, dy, ey, vy, ksy⟩ := y
        simp only [Tr.v, Tr.kids] at hyv
        subst hyv
        have he2 : e = .returned (.tuple #[.agg #[.string ky, .string dy, .bool ey, .slice ya ksy.length yc], .nilIface]) := heq
        subst he2
        clear heq
        have hIr := HI.out
        have hB4 : Below wr.heap.size wr (w3.alloc (.cells #[.string ky, .string dy, .bool ey, .slice ya ksy.length yc] 32)) := hb3.alloc hb3.size _
        have hz4 := hB4.size
        have hxb := Blk.new w3 [.string ky, .string dy, .bool ey, .slice ya ksy.length yc] 32
        have c4 : (w3.alloc (.cells #[.string ky, .string dy, .bool ey, .slice ya ksy.length yc] 32)).cell? ⟨L.d, 0, none⟩ = some (.pointer (some ⟨L.t, 0, none⟩)) := (hB4.cell (p := ⟨L.d, 0, none⟩) (World.block_lt_of_cell? wr _ hc0)).trans hc0
        have hzw := hIr.fr.size
        have hMK := make_okb L.B L.t L.p L.r L.ps L.rs L.m (s.N + k) Tk uk lk dy ey (w3.alloc (.cells #[.string ky, .string dy, .bool ey, .slice ya ksy.length yc] 32)).drew (hIr.tb.ob hB4.drew) (by have := filesR_le HZ.out.1; omega) (by show L.B ≤ (w3.alloc _).heap.size; omega) (by rw [show dy = (filesR t)[k].2.data from hyd]; exact HF1.out) (by rw [show dy = (filesR t)[k].2.data from hyd]; exact HND3.out)
        have HMK := hidd hMK
        have HMF := hidd (hIr.mp.low hB4.drew)
        have HB4 := hidd hB4
        have HYD : Hid (dy = (filesR t)[k].2.data) := hidd hyd
        have HYE : Hid (ey = (filesR t)[k].2.exec) := hidd hye
        clear hMK hyo hb3 hB4 hyb hIr hyd hye
        go_upto_region 13 with fail
        generalize w3.alloc (.cells #[.string ky, .string dy, .bool ey, .slice ya ksy.length yc] 32) = w4 at *
        have z0 := hxb.cell (i := 0) rfl
        have z1 := hxb.cell (i := 1) rfl
        have z2 := hxb.cell (i := 2) rfl
        clear x0 x1 x2 x3 hc0 hrd
        have HN := hidd hN
        have HHH := hidd (fun (W W' : World) (hb : Below w4.heap.size w4.drew W) (hf : Fr (fun b => b = L.p ∨ b = L.r ∨ b = L.rs ∨ b = L.m) w4.drew W') => True.intro)
        clear HHH
        have HFM := hidd (fun (W : World) (hf : Fr (fun b => b = L.p ∨ b = L.r ∨ b = L.rs ∨ b = L.m) w4.drew W) (k0 : Nat) => (HMF.out.fr hf (fun e' => by have := HPL.out _ e'; omega)).store (by have := filesR_le HZ.out.1; have := HI.out.le; omega) q k0 (by omega))
        go_region_law (first
          | (go_simp; go_at_call 32; (with_reducible refine HMK.out.mono ?_); rintro e w5 ⟨k0, xx, rfl, m1, m2, m3, m4, m5, m6, m7, m8, m9, m10, m11⟩; obtain ⟨w6, hrun, hm6, hf6⟩ := HFM.out w5 m9 k0))
        all_goals
          have hIr := HI.out
          have hw45 : Below wr.heap.size wr w4.drew := HB4.out.drew
          have hmfl := hIr.mfl
          have hne : ∀ b, (b = L.p ∨ b = L.r ∨ b = L.rs ∨ b = L.m) → b < w.heap.size := fun b hb => (HPL.out b hb).2.1
          have f5 : Fr (fun b => b = L.p ∨ b = L.r ∨ b = L.rs ∨ b = L.m) w w5 := (hIr.fr.trans (Fr.ob hw45)).trans m9
          have f6 : Fr (fun b => b = L.p ∨ b = L.r ∨ b = L.rs ∨ b = L.m) w w6 := f5.trans' hf6 (fun _ _ h => h) (fun b hb e => by omega)
          have hm5 : MapF w5 w9.heap.size k Fk := HMF.out.fr m9 (fun e' => by have := hne _ e'; omega)
          have hnt := notTb_map m8 hm5.noc (fun e' => by have := hne _ (.inr (.inr (.inr e'))); omega)
          have t6 := tb_fr m8 hf6 (fun b hb => by rw [hb]; exact hnt)
          have b5 := (hIr.bx.below hw45 hIr.bx.lt).fr m9 (fun e' => by have := hne _ e'; omega)
          have b6 := b5.fr hf6 (fun e' => noc_blk b5 hm5.noc e'.symm)
          have o5 := (hIr.rows.ob hw45).fr m9 (fun g hg e' => by have := hne _ e'; have := (hIr.rows.blk g hg).1; omega)
          have o6 := o5.fr hf6 (fun g hg e' => own_ne_any o5 hm5.noc (by rw [← e']; exact hg))
          have HI2 : Hid (PtL pc L s t w t.kind t.data t.exec a t.kids.length cap w9.heap.size (some ⟨b, off, none⟩) fc (k + 1) (upd Tk k0 (some xx)) (tk uk (needN dy.size) uk.length).2 (lsN lk xx.bl dy xx.bl.length) (setF Fk q k0) w6) := hidd {
            le := hlt'
            bx := b6
            rows := o6
            mp := hm6
            mfl := hmfl
            tb := t6
            sz := hIr.sz.lsN _ _ _
            j := by
              have := hIr.j.next hlt' HND2.out m2 (by rw [m4]; exact HYD.out) (by rw [m5]; exact HYE.out) m6 (uk := (tk uk (needN dy.size) uk.length).2) (by
                have hnn : needN dy.size ≤ nfree uk := by rw [HYD.out]; exact HND3.out
                rw [nfree_tk uk _ hnn]
                show nfree uk - needN dy.size + needN (filesR t)[k].2.data.size = nfree uk
                rw [← HYD.out]
                omega)
              rw [HQQ.out] at this
              exact this
            fr := f6
            new := by
              rintro b' (hb | hb | hb | hb | ⟨i, y, hy, hb⟩)
              · exact .inl (.inl hb)
              · exact .inl (.inr (.inl hb))
              · exact .inl (.inr (.inr (.inl hb)))
              · exact .inl (.inr (.inr (.inr (.inl hb))))
              · by_cases ei : i = k0
                · subst ei
                  rw [upd_same] at hy
                  obtain rfl := Option.some.inj hy
                  right
                  have h1 := hIr.fr.size
                  have h2 := hw45.size
                  omega
                · rw [upd_other _ _ _ ei] at hy
                  exact hIr.new b' (.inr (.inr (.inr (.inr ⟨i, y, hy, hb⟩)))) }
          clear hIr hw45 hmfl hne f5 f6 hm5 hnt t6 b5 b6 o5 o6 m1 m2 m3 m4 m5 m6 m7 m8 m9 m10 m11 hm6 hf6 hrun z0 z1 z2 c4 hxb
          go_wp2_with fail
          go_roundw
          case rel => exact ⟨k + 1, _, _, _, _, by go_num, HI2.out⟩
          case measure => simp [intOf]; omega
      · obtain rfl : k = m := by omega
        have hlk : (filesR t).length = k := HMM.out
        have hpl : ∀ b, (b = L.p ∨ b = L.r ∨ b = L.rs ∨ b = L.m) → L.B ≤ b ∧ b < w.heap.size ∧ tbS L.p L.r L.rs L.m s.T b := by
          have hb := HH.out.tb.base
          obtain ⟨n0, -, hmm⟩ := HH.out.tb.mp
          rintro b (rfl | rfl | rfl | rfl)
          · exact ⟨hb.1, HH.out.tb.dk.head.lt, .inl rfl⟩
          · exact ⟨hb.2.1, HH.out.tb.dk.row.lt, .inr (.inl rfl)⟩
          · exact ⟨hb.2.2.2.1, HH.out.tb.sp.row.lt, .inr (.inr (.inl rfl))⟩
          · exact ⟨hb.2.2.2.2.1, hmm.lt, .inr (.inr (.inr (.inl rfl)))⟩
        have htr : t.Ok wr := ok_fr hI.fr _ HQ.out.1 (in_mono (fun b hb e' => hb (.inl (hpl b e').2.2)) _ HQ.out.2.1)
        have hM1 : DiM pc wr L { s with N := s.N + k, T := Tk, us := uk, ls := lk } := HH.out.toDiM.table (hI.fr.mono (fun b _ hb => (hpl b hb).2.2)) (Nat.le_add_right _ _) hI.tb hI.sz hI.new
        have hBR := bare_any 200 t wr.drew (fine_of HZ.out.1).2 (by omega) (htr.ob (Below.refl _ _).drew)
        unfold nval at hBR
        rw [HZ.out.2.2] at hBR
        have HBR := hidd hBR
        have c1 := hM1.c1
        have c2 := hM1.c2
        have x0 := hI.bx.cell (i := 0) rfl
        have x1 := hI.bx.cell (i := 1) rfl
        have x2 := hI.bx.cell (i := 2) rfl
        have x3 := hI.bx.cell (i := 3) rfl
        have HM1 := hidd hM1
        have HI := hidd hI
        have HPL := hidd hpl
        have HMP : Hid (∀ W, Below wr.heap.size wr.drew W → ∀ (a2 : Option Addr) (c2 : Nat) (ks2 : List (ByteArray × Lt)), ∃ w', (Instr.mapUpdate 76 (.map (some L.mb)) (.int .i64 (s.nx : Int)) (.agg #[.string t.kind, .string (bd t), .bool t.exec, .slice a2 ks2.length c2, .map (some w9.heap.size)])).run Tryz.prog W = .ok () w' ∧
            MapD w' L.mb (s.nm + 1) (updD s.D s.nx (some ⟨.mk t.kind (bd t) t.exec (.slice a2 ks2.length c2) ks2, w9.heap.size, t.bare, Fk⟩)) ∧ Fr (fun b => b = L.mb) W w') := hidd (fun W hW a2 c2 ks2 => (HM1.out.mp.low ((Below.refl _ _).drew.trans hW)).store (by show s.nm ≤ 1000000; omega) s.nx ⟨.mk t.kind (bd t) t.exec (.slice a2 ks2.length c2) ks2, w9.heap.size, t.bare, Fk⟩ ⟨by omega, by omega⟩)
        have HCC := hidd (fun W (hW : Below wr.heap.size wr.drew W) => (⟨(HM1.out.low ((Below.refl _ _).drew.trans hW)).c1, (HM1.out.low ((Below.refl _ _).drew.trans hW)).c2⟩ : W.cell? ⟨L.d, 1, none⟩ = some (.map (some L.mb)) ∧ W.cell? ⟨L.d, 2, none⟩ = some (.int .i64 (s.nx : Int))))
        obtain ⟨bdt, hbd⟩ : ∃ x, bd t = x := ⟨_, rfl⟩
        have HBD := hidd hbd
        unfold BareP at HBR
        rw [hbd] at HBR HMP
        clear hbd hI hM1 hBR htr hpl hlt
        go_upto_region 17 with fail
        go_region_law (first
          | (go_simp; go_at_call 33; (with_reducible refine HBR.out.mono ?_); rintro e w5 ⟨a2, c2', ks2, rfl, b1, b2, b3, b4⟩; obtain ⟨cc1, cc2⟩ := HCC.out w5 b4; obtain ⟨w6, hrun, hmp6, hf6⟩ := HMP.out w5 b4 a2 c2' ks2))
        all_goals
          have hM5 := HM1.out.low ((Below.refl _ _).drew.trans b4)
          have hI := HI.out
          have hk6 := hM5.bk.fr hf6 (fun e' => noc_blk hM5.bk hM5.mp.noc e'.symm)
          have g2 := hk6.cell (i := 2) rfl
          have k2 := hk6.frozen 2
          have hk7 := hk6.set 2 (.int .i64 ((s.nx + 1 : Nat) : Int))
          have g7 := hk7.cell (i := 2) rfl
          have r1 : IntKind.i64.wrap ((s.nx : Int) + 1) = ((s.nx + 1 : Nat) : Int) := by rw [i64_in _ (by omega)]; omega
          have r2 : IntKind.i64.wrap (((s.nx + 1 : Nat) : Int) - 1) = (s.nx : Int) := by rw [i64_in _ (by omega)]; omega
          have HPP : Hid (PtP pc L s t w (.returned (.tuple #[.int .i64 (s.nx : Int), .nilIface])) (w6.setCell ⟨L.d, 2, none⟩ (.int .i64 ((s.nx + 1 : Nat) : Int)))) := hidd (by
            have hz5 := b4.size
            have hz0 := hI.fr.size
            have hmfl := hI.mfl
            have hmlt := hI.mp.lt
            have hmf5 : MapF w5 w9.heap.size k Fk := hI.mp.low ((Below.refl _ _).drew.trans b4)
            have hd5 := hM5.bk.lt
            have hbk := HH.out.bk.lt
            have hmbl := HH.out.mp.lt
            have hmbd : L.mb ≠ L.d := noc_blk hM5.bk hM5.mp.noc
            have hf7 : Fr (fun b => b = L.mb ∨ b = L.d) w5 (w6.setCell ⟨L.d, 2, none⟩ (.int .i64 ((s.nx + 1 : Nat) : Int))) := (hf6.mono (fun _ _ h => .inl h)).setCell (p := ⟨L.d, 2, none⟩) (.inl (.inr rfl)) _
            have hfd : Fr (fun b => b = L.d) w6 (w6.setCell ⟨L.d, 2, none⟩ (.int .i64 ((s.nx + 1 : Nat) : Int))) := (Fr.refl (fun b => b = L.d) w6).setCell (p := ⟨L.d, 2, none⟩) (.inl rfl) _
            have hml : L.m < w.heap.size := by obtain ⟨n0, -, hmm⟩ := HH.out.tb.mp; exact hmm.lt
            obtain ⟨q1', q2', q3'⟩ := PutJ.done HZ.out.1 (F := Fk) (by rw [hlk]; exact hI.j) (.mk t.kind bdt t.exec (.slice a2 ks2.length c2') ks2) w9.heap.size
            have hdlt : ∀ b, diS L { s with N := s.N + k, T := Tk, us := uk, ls := lk } b → b < wr.heap.size := fun b hb => by
              rcases hb with (hb | hb | hb | hb | ⟨i, y, hy, hb⟩) | hb | hb | ⟨i, f, hf', hb⟩
              · have := (HPL.out b (.inl hb)).2.1; omega
              · have := (HPL.out b (.inr (.inl hb))).2.1; omega
              · have := (HPL.out b (.inr (.inr (.inl hb)))).2.1; omega
              · have := (HPL.out b (.inr (.inr (.inr hb)))).2.1; omega
              · rw [hb]; exact (hI.tb.ino i y hy).blk.lt
              · omega
              · omega
              · rw [hb]; have := (HH.out.fms i f hf').lt; omega
            have hput := hM5.put (e := ⟨.mk t.kind bdt t.exec (.slice a2 ks2.length c2') ks2, w9.heap.size, t.bare, Fk⟩) hf7 (hmp6.fr hfd hmbd) hk7
              ((((hmf5.fr hf6 (fun e' => by have e2 : w9.heap.size = L.mb := e'; omega)).fr hfd (fun e' => by have e2 : w9.heap.size = L.d := e'; omega))).mono (by show k ≤ s.N + k; omega))
              (ok_fr hf7 _ b2 (in_mono (fun b hb e' => by have : wr.heap.size ≤ b := hb.1; rcases e' with e' | e' <;> omega) _ b3))
              (in_mono (fun b hb => ⟨fun e' => by have : wr.heap.size ≤ b := hb.1; have := hdlt b e'; omega, by have : wr.heap.size ≤ b := hb.1; show b ≠ w9.heap.size; omega⟩) _ b3)
              (by show L.B ≤ w9.heap.size; omega)
              ⟨notTb_map hM5.tb hmf5.noc (by show w9.heap.size ≠ L.m; omega), by show w9.heap.size ≠ L.d; omega, by show w9.heap.size ≠ L.mb; omega, fun i f hf' => by have := (HH.out.fms i f hf').lt; show w9.heap.size ≠ f.fm; omega⟩
              (fun i f hf' => in_mono (fun b hb => by show b ≠ w9.heap.size; omega) _ (ok_in _ (HH.out.tr i f hf')))
            refine ⟨rfl, ?_, ⟨.mk t.kind bdt t.exec (.slice a2 ks2.length c2') ks2, w9.heap.size, t.bare, Fk⟩, { s with N := s.N + k, T := Tk, us := uk, ls := lk }, rfl, in_mono (fun b hb => by have h9 : wr.heap.size ≤ b := hb.1; omega) _ b3, rfl, rfl, rfl, by rw [hlk], hI.j.old, ?_, { toDiM := hput, well := ?_, lnk := ?_, dat := ?_ }, ?_⟩
            · exact ((hI.fr.mono (T := diS L s) (fun b _ hb => .inl (HPL.out b hb).2.2)).trans (Fr.ob ((Below.refl _ _).drew.trans b4))).trans' hf7 (fun _ _ h => h) (fun b _ h => h.elim (fun h => .inr (.inr (.inl h))) (fun h => .inr (.inl h)))
            · have h1 := hI.j.fre
              rw [← hlk, List.take_of_length_le (Nat.le_refl _)] at h1
              rw [needS_R HZ.out.1]
              exact h1
            · intro i f hi
              rcases updD_cases hi with ⟨rfl, h1⟩ | ⟨-, h1⟩
              · cases h1
                exact ⟨by rw [show t.bare = t.map fun _ => () from rfl, treeE_map]; exact HZ.out.1, b1, q1'⟩
              · exact HH.out.well i f h1
            · exact HH.out.lnk.put q2'
            · intro hpc i f hi
              rcases updD_cases hi with ⟨rfl, h1⟩ | ⟨-, h1⟩
              · cases h1; exact q3'
              · exact (HH.out.dat hpc i f h1).more hI.j.old (fun q' m' hq' => by obtain ⟨x, hx, -⟩ := HH.out.ino h1 hq'; exact ⟨x, hx⟩)
            · rintro b (hb | hb | hb | ⟨i, f, hi, rfl⟩)
              · exact (hI.new b hb).imp .inl id
              · exact .inl (.inr (.inl hb))
              · exact .inl (.inr (.inr (.inl hb)))
              · rcases updD_cases hi with ⟨rfl, h1⟩ | ⟨-, h1⟩
                · cases h1; exact .inr hmfl
                · exact .inl (.inr (.inr (.inr ⟨i, f, h1, rfl⟩))))
          clear hM5 hI hk6 hk7 b1 b2 b3 b4 hmp6 hf6 hrun c1 c2 cc1 cc2 x0 x1 x2 x3
          go_wp2_with fail
          go_ret2
          exact HPP.out
end Go.Proofs.YtoemahhpheobkaaGreatDoor
