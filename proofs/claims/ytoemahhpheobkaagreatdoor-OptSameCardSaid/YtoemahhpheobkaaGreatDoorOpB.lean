/- Dirs.Files; opt.firsts: of each key the least inode; opt.file: which inode a file should be. Condition: the dirs are there. -/
import Derived.Test.YtoemahhpheobkaaGreatDoorOpA
import Derived.Test.YtoemahhpheobkaaGreatDoorOpP
namespace Go.Proofs.YtoemahhpheobkaaGreatDoor
open Go.RowKit Go.Shelf

section
variable {α : Type}
theorem own_bareT {t : Tr α} (h : ownE t = 0) : ownE (bareT t) = 0 := by
  have e1 := kind_bareT t
  have e2 : ((bareT t).kids.map (·.1)) = t.kids.map (·.1) := by rw [kids_bareT, List.map_map]; rfl
  have e3 : (bareT t).kids.length = t.kids.length := by rw [kids_bareT, List.length_map]
  have e4 : (bareT t).exec = t.exec := by cases t; rw [bareT]; rfl
  have e5 : (bareT t).data = if t.kind = kFile then ⟨#[]⟩ else t.data := by cases t; rw [bareT]; rfl
  unfold ownE shapeB at h ⊢
  rw [e1, e2, e3, e4, e5]
  by_cases hk : t.kind = kFile
  · have hl : kFile ≠ kLink := by decide
    rw [hk] at h ⊢
    simp only [if_true, hl, false_and, or_false, if_false] at h ⊢
    have h0 : ¬ (2000 < (⟨#[]⟩ : ByteArray).size) := by decide
    rw [if_neg h0]
    by_cases hd : 2000 < t.data.size
    · rw [if_pos hd] at h
      split at h
      · cases h
      · split at h <;> cases h
    · rw [if_neg hd] at h
      exact h
  · rw [show (if t.kind = kFile then (⟨#[]⟩ : ByteArray) else t.data) = t.data from if_neg hk]
    exact h
theorem scan_bareT : ∀ (l : List (It α)) (c : Nat), scan c l = 0 → scan c (l.map fun x => ⟨x.path, x.deep, bareT x.n⟩) = 0
  | [], _, _ => rfl
  | x :: r, c, h => by
    rw [scan] at h
    rw [List.map_cons, scan]
    split at h
    · cases h
    rename_i h1
    split at h
    · cases h
    rename_i h2
    split at h
    · omega
    rename_i h3
    have h4 : ownE (bareT x.n) = 0 := own_bareT (by omega)
    rw [if_neg h1, if_neg h2, if_neg (by rw [h4]; omega)]
    exact scan_bareT r (c + 1) h
theorem treeE_bareT {t : Tr α} (h : treeE t = 0) : treeE (bareT t) = 0 := by
  unfold treeE at h ⊢
  rw [pre_bareT]
  exact scan_bareT _ _ h
theorem fileL_of {β : Type} {l : List (It α)} {l' : List (It β)} (h : l.map (fun x => (x.path, x.n.kind, x.n.kids.length)) = l'.map (fun x => (x.path, x.n.kind, x.n.kids.length))) : fileL l = fileL l' := by
  have key : ∀ {γ : Type} (l : List (It γ)), fileL l = ((l.map fun x => (x.path, x.n.kind, x.n.kids.length)).filter fun z => decide (z.2.1 = kFile)).map fun z => pathOf z.1 := fun l => by
    rw [List.filter_map, List.map_map]
    rfl
  rw [key, key, h]
end
/-- The files of a tree of the dirs. -/
theorem Dt.Well.files {e : Dt} (hw : e.Well) : fileL (listed e.tr) = e.fl := by
  have h1 : treeE e.tr = 0 := by
    have h2 := treeE_bareT hw.right
    rw [← hw.bare, show e.tr.bare = e.tr.map fun _ => () from rfl, treeE_map] at h2
    exact h2
  show _ = fileL (listed e.src)
  rw [listed_of h1, listed_of hw.right]
  exact fileL_of (ent_pre hw)

set_option maxRecDepth 100000 in
set_option maxHeartbeats 4000000 in
theorem dfiles_any {pc : Prop} (E : Nat → Addr) (B : Nat) (L : Loc) (s : St) (k : Nat) (e0 : Dt) (w : World) (h : DiAt pc w L s) (hE : Env diGs B w E) (hk : K64 (k : Int)) (he : s.D k = some e0) :
    Calls Tryz.prog 49 #[.pointer (some ⟨L.d, 0, none⟩), .int .i64 (k : Int)] w (FilesP e0.fl w) := by
  obtain ⟨ea, ec, hev⟩ := (h.tr _ _ he).shape
  have hent : entV e0 = .agg #[.string e0.tr.kind, .string e0.tr.data, .bool e0.tr.exec, .slice ea e0.tr.kids.length ec, .map (some e0.fm)] := by unfold entV; rw [hev]
  have hc1 := h.c1
  have hl := h.look_ok hk
  rw [dmF_nat, he] at hl
  simp only [Option.map_some, Option.getD_some, Option.isSome_some, hent] at hl
  have hB1 : Below w.heap.size w (w.alloc (.cells #[.string e0.tr.kind, .string e0.tr.data, .bool e0.tr.exec, .slice ea e0.tr.kids.length ec, .map (some e0.fm)] 83)) := (Below.refl _ _).alloc (Nat.le_refl _) _
  have hx1 := Blk.new w [.string e0.tr.kind, .string e0.tr.data, .bool e0.tr.exec, .slice ea e0.tr.kids.length ec, .map (some e0.fm)] 83
  have hF := files_any E B e0.tr _ ((h.tr _ _ he).ob hB1) (hE.ob hB1).di
  rw [(h.well k e0 he).files] at hF
  unfold nval at hF
  rw [hev] at hF
  have HF := hidd hF
  have HB := hidd hB1
  clear hF hB1 hent h hE he hev
  go_enter Tryz.func49, Tryz.ntmps49
  go_upto_region 2 with fail
  generalize w.alloc (.cells #[.string e0.tr.kind, .string e0.tr.data, .bool e0.tr.exec, .slice ea e0.tr.kids.length ec, .map (some e0.fm)] 83) = w1 at *
  have x0 := hx1.cell (i := 0) rfl
  have x1 := hx1.cell (i := 1) rfl
  have x2 := hx1.cell (i := 2) rfl
  have x3 := hx1.cell (i := 3) rfl
  clear hl hc1 hx1
  go_wp2_with fail
  refine HF.out.mono ?_
  rintro e w2 ⟨v, rfl, how, hb2⟩
  have HP : Hid (FilesP e0.fl w (.returned v) w2) := hidd ⟨v, rfl, how.mono (fun g hg => by have := HB.out.size; omega), HB.out.trans (hb2.mono HB.out.size)⟩
  clear how hb2 HF HB
  go_wp2_with fail
  go_ret
  exact HP.out

theorem readB_le (ls : List ByteArray) (x : Ino) : (readB ls x).size ≤ x.data.size := by
  have h := congrArg List.length (readB_list ls x)
  rw [List.length_take] at h
  have h2 : (readB ls x).data.toList.length = (readB ls x).size := Array.length_toList
  omega
theorem rdI_le {ls : List ByteArray} {x : Ino} {d : ByteArray} (h : rdI ls x = some d) : d.size ≤ x.data.size := by
  unfold rdI at h
  split at h
  · cases h; exact readB_le ls x
  · cases h
theorem MapQ.ne_cell {w : World} {m n : Nat} {F : ByteArray × Bool → Option Nat} (h : MapQ w m n F) {p : Addr} {v : Value} (hc : w.cell? p = some v) : p.block ≠ m := by
  rintro rfl
  obtain ⟨vals, h0, D, ⟨es, clock, hh, -⟩, -⟩ := h
  unfold World.cell? at hc
  rw [hh] at hc
  cases hc
/-- The least inode of a key, of a list of inodes. -/
def fstL (ls : List ByteArray) (T : Nat → Option Ino) (l : List Nat) (c : ByteArray × Bool) : Option Nat := l.find? fun m => decide (kyI ls T m = some c)
section
variable {ls : List ByteArray} {T : Nat → Option Ino} {K : Nat}
theorem fstL_keys {kl : List Nat} (h : KeysOf T kl) (hK : ∀ k, K ≤ k → T k = none) : fstL ls T kl = fstI ls T K := by
  have e : kl = kysL T K := h.one (kys_keys hK)
  funext c
  unfold fstL fstI
  rw [e]
  unfold kysL
  rw [List.find?_filter]
  congr 1
  funext m
  cases hT : T m with
  | none => simp [kyI, hT]
  | some x => simp
theorem fstL_snoc (l : List Nat) (k : Nat) (c : ByteArray × Bool) : fstL ls T (l ++ [k]) c = (fstL ls T l c).or (if kyI ls T k = some c then some k else none) := by
  unfold fstL
  rw [List.find?_append]
  congr 1
  by_cases h : kyI ls T k = some c <;> simp [h]
theorem fstL_none {l : List Nat} {k : Nat} (h : kyI ls T k = none) : fstL ls T (l ++ [k]) = fstL ls T l := by
  funext c
  rw [fstL_snoc, h]
  simp
theorem fstL_old {l : List Nat} {k : Nat} {c : ByteArray × Bool} (h : kyI ls T k = some c) (ho : (fstL ls T l c).isSome = true) : fstL ls T (l ++ [k]) = fstL ls T l := by
  funext d
  rw [fstL_snoc, h]
  by_cases e : c = d
  · subst e
    cases hf : fstL ls T l c with
    | none => rw [hf] at ho; cases ho
    | some m => rfl
  · simp [e]
theorem fstL_new {l : List Nat} {k : Nat} {c : ByteArray × Bool} (h : kyI ls T k = some c) (ho : fstL ls T l c = none) : fstL ls T (l ++ [k]) = fun d => if d = c then some k else fstL ls T l d := by
  funext d
  rw [fstL_snoc, h]
  by_cases e : d = c
  · subst e; simp [ho]
  · have : ¬ c = d := fun x => e x.symm
    simp [e, this]
end
/-- What firsts gives. -/
def FsP (s : St) (K : Nat) (w : World) (e : Ending) (w' : World) : Prop := ∃ m n, e = .returned (.map (some m)) ∧ MapQ w' m n (fstI s.ls s.T K) ∧ Below w.heap.size w w'
set_option maxRecDepth 100000 in
set_option maxHeartbeats 8000000 in
theorem firsts_any {pc : Prop} (E : Nat → Addr) (B : Nat) (L : Loc) (s : St) (K : Nat) (w : World) (h : DiM pc w L s) (hE : Env diGs B w E) (hN : s.N ≤ 1000000) (hK : s.N ≤ K) :
    Calls Tryz.prog 48 #[.pointer (some ⟨L.t, 0, none⟩)] w (FsP s K w) := by
  have hB1 : Below w.heap.size w (w.alloc (.map #[] 0)) := (Below.refl _ _).alloc (Nat.le_refl _) _
  have hm1 := MapQ.new w
  have hmk : (Sem.run Tryz.prog (Instr.makeMap 109 none) w) = .ok (.map (some w.heap.size)) (w.alloc (.map #[] 0)) := rfl
  have HAL := hidd (all_any L.B L.t L.p L.r L.ps L.rs L.m s.N s.T s.us s.ls _ (h.low hB1).tb hN)
  have HH := hidd (fun W (hW : Below w.heap.size w W) => (⟨h.low hW, hE.ob hW⟩ : DiM pc W L s ∧ Env diGs B W E))
  have HFL := hidd (fun kl (hk : KeysOf s.T kl) => (fstL_keys (ls := s.ls) hk (K := K) (fun k hk => by
    cases hT : s.T k with
    | none => rfl
    | some x => have := h.klt hT; omega)))
  have HB1 := hidd hB1
  have HM1 := hidd hm1
  have HKL := hidd (fun k x (hx : s.T k = some x) => (⟨h.klt hx, (h.tb.ok k x hx).size⟩ : k < s.N ∧ x.data.size ≤ 2000))
  clear h hE hB1 hm1
  go_enter Tryz.func48, Tryz.ntmps48
  go_wp2_with fail
  refine HAL.out.mono ?_
  rintro e w2 ⟨kl, a, cap, hkl, hkl1, rfl, hsl, hb2⟩
  have HKK := hidd hkl
  have HM2 := hidd (HM1.out.low hb2)
  have HB2 := hidd (HB1.out.trans (hb2.mono HB1.out.size))
  have HSL := hidd hsl
  have hz1 : (w.alloc (.map #[] 0)).heap.size = w.heap.size + 1 := by simp
  clear hkl hsl hb2 HAL HM1 HB1
  go_wp2_with fail
  go_loopw [5, 6, 7, 8, 9, 10, 11, 16] (fun _ _ _ _ _ _ _ iv wr => ∃ i : Nat, i ≤ kl.length ∧ iv = .int .i64 (i : Int) ∧ MapQ wr w.heap.size i (fstL s.ls s.T (kl.take i)) ∧ Fr (fun b => b = w.heap.size) w2 wr) (fun _ _ _ _ _ _ _ iv _ => kl.length - (intOf iv).toNat)
  case atStart => exact ⟨0, Nat.zero_le _, rfl, HM2.out, Fr.refl _ _⟩
  case round =>
    obtain ⟨i, hi, rfl, hm, hfr⟩ := hrel
    have hbw : Below w.heap.size w wr := HB2.out.trans (hfr.below HB2.out.size (fun b hb => by omega))
    by_cases hlt : i < kl.length
    · obtain ⟨b1, o1, rfl, hb1, hc1, hr1⟩ := HSL.out.at1 hlt
      rw [show (ints kl)[i] = .int .i64 (kl[i] : Int) by simp [ints]] at hr1
      have hr2 := hfr.cell hr1 (HM2.out.ne_cell hr1)
      obtain ⟨x, hx⟩ := Option.isSome_iff_exists.1 ((HKK.out.2 _).1 (List.getElem_mem hlt))
      have htk : kl.take (i + 1) = kl.take i ++ [kl[i]] := List.take_succ_eq_append_getElem hlt
      obtain ⟨k, hk⟩ : ∃ k, kl[i] = k := ⟨_, rfl⟩
      rw [hk] at hr2 hx htk
      have hrd := dread_any E B L s k x wr (HH.out _ hbw).1 (HH.out _ hbw).2 hN hx
      obtain ⟨hkN, hds⟩ := HKL.out k x hx
      have HST := hidd (fun W (hW : Below wr.heap.size wr W) => stat_ok L.B L.t L.p L.r L.ps L.rs L.m s.N s.T s.us s.ls k x W (HH.out _ (hbw.trans (hW.mono hbw.size))).1.tb (by omega) hx)
      have hky : kyI s.ls s.T k = (rdI s.ls x).map fun d => (d, x.exec) := by unfold kyI; rw [hx]; rfl
      have HTK := hidd htk
      have HM := hidd hm
      have HFR := hidd hfr
      have p1 : (0 : Int) ≤ (i : Int) := by omega
      have p2 : (i : Int) < (kl.length : Int) := by omega
      clear hr1 hb1 hc1 hk hx htk hm hfr hbw HM2 hkN
      obtain ⟨xe, hxe⟩ : ∃ b, x.exec = b := ⟨_, rfl⟩
      cases hrI : rdI s.ls x with
      | none =>
        rw [hrI] at hrd hky
        simp only [rdV] at hrd
        unfold erv at hrd
        have HRD := hidd hrd
        have HN : Hid (fstL s.ls s.T (kl.take (i + 1)) = fstL s.ls s.T (kl.take i)) := hidd (by rw [HTK.out]; exact fstL_none hky)
        clear hrd hky hrI
        go_wp2_with fail
        refine HRD.out.mono ?_
        rintro e w3 ⟨rfl, hb3⟩
        have HB3 := hidd hb3
        have HS3 := hidd (HST.out w3 hb3)
        clear hb3 HRD
        go_wp2_with fail
        refine HS3.out.mono ?_
        rintro e w4 ⟨sa, sc, rfl, -, hb4⟩
        have HB4 := hidd (HB3.out.trans (hb4.mono HB3.out.size))
        clear hb4 HS3
        rw [hxe]
        go_wp2_with fail
        go_roundw
        case rel => exact ⟨i + 1, by omega, by go_num, by rw [HN.out]; exact ((HM.out.low (HB4.out.alloc HB4.out.size _))).mono (by omega), HFR.out.trans (Fr.ob (HB4.out.alloc HB4.out.size _))⟩
        case measure => simp [intOf]; omega
      | some d =>
        rw [hrI] at hrd hky
        simp only [rdV] at hrd
        have hky' : kyI s.ls s.T k = some (d, xe) := by rw [hky, ← hxe]; rfl
        have HRD := hidd hrd
        have hdz : d.size ≤ 2000 := Nat.le_trans (rdI_le hrI) hds
        have HKY := hidd hky'
        clear hrd hky hky' hrI
        go_wp2_with fail
        refine HRD.out.mono ?_
        rintro e w3 ⟨rfl, hb3⟩
        have HB3 := hidd hb3
        have HS3 := hidd (HST.out w3 hb3)
        clear hb3 HRD
        go_wp2_with fail
        refine HS3.out.mono ?_
        rintro e w4 ⟨sa, sc, rfl, -, hb4⟩
        have hb4' := HB3.out.trans (hb4.mono HB3.out.size)
        obtain ⟨xd, hxd⟩ : ∃ v : Int, ((x.data.size : Nat) : Int) = v := ⟨_, rfl⟩
        obtain ⟨xc, hxc⟩ : ∃ v : Int, ((crc x.data.data.toList : Nat) : Int) = v := ⟨_, rfl⟩
        obtain ⟨xb, hxb⟩ : ∃ v : Nat, x.bl.length = v := ⟨_, rfl⟩
        obtain ⟨xl, hxl⟩ : ∃ v : Nat, x.links = v := ⟨_, rfl⟩
        rw [hxd, hxc, hxb, hxl, hxe]
        have hx5 := Blk.new w4 [.int .i64 xd, .int .i64 (xl : Int), .bool xe, .slice sa xb sc, .int .u32 xc] 54
        have hb5 : Below wr.heap.size wr (w4.alloc (.cells #[.int .i64 xd, .int .i64 (xl : Int), .bool xe, .slice sa xb sc, .int .u32 xc] 54)) := hb4'.alloc hb4'.size _
        have HB5 := hidd hb5
        have hM5 := HM.out.low hb5
        have hl5 := hM5.look_ok (c := (d, xe)) (by show d.size ≤ _; omega)
        have HM5 := hidd hM5
        clear hb4 hb4' hxd hxc hxb hxl hb5 hM5 HS3 HM
        go_upto_region 7 with fail
        generalize w4.alloc (.cells #[.int .i64 xd, .int .i64 (xl : Int), .bool xe, .slice sa xb sc, .int .u32 xc] 54) = w5 at *
        have x2 := hx5.cell (i := 2) rfl
        clear hx5
        cases hF : fstL s.ls s.T (kl.take i) (d, xe) with
        | some j =>
          rw [show fmK (fstL s.ls s.T (kl.take i)) (d, xe) = some (.int .i64 (j : Int)) by unfold fmK; rw [hF]; rfl] at hl5
          simp only [Option.getD_some, Option.isSome_some] at hl5
          have HN : Hid (fstL s.ls s.T (kl.take (i + 1)) = fstL s.ls s.T (kl.take i)) := hidd (by rw [HTK.out]; exact fstL_old HKY.out (by rw [hF]; rfl))
          clear hF
          go_wp2_with fail
          go_roundw
          case rel => exact ⟨i + 1, by omega, by go_num, by rw [HN.out]; exact HM5.out.mono (by omega), HFR.out.trans (Fr.ob HB5.out)⟩
          case measure => simp [intOf]; omega
        | none =>
          rw [show fmK (fstL s.ls s.T (kl.take i)) (d, xe) = none by unfold fmK; rw [hF]; rfl] at hl5
          simp only [Option.getD_none, Option.isSome_none] at hl5
          have HN : Hid (fstL s.ls s.T (kl.take (i + 1)) = fun c => if c = (d, xe) then some k else fstL s.ls s.T (kl.take i) c) := hidd (by rw [HTK.out]; exact fstL_new HKY.out hF)
          obtain ⟨w6, hst, hm6, hf6⟩ := HM5.out.store (by omega) (d, xe) k (by show d.size ≤ _; omega)
          have HM6 := hidd hm6
          have HF6 := hidd (HFR.out.trans ((Fr.ob HB5.out).trans hf6))
          simp only at hst
          clear hF hm6 hf6
          go_wp2_with fail
          go_roundw
          case rel => exact ⟨i + 1, by omega, by go_num, by rw [HN.out]; exact HM6.out, HF6.out⟩
          case measure => simp [intOf]; omega
    · obtain rfl : i = kl.length := by omega
      rw [List.take_of_length_le (Nat.le_refl _), HFL.out kl HKK.out] at hm
      have HP : Hid (FsP s K w (.returned (.map (some w.heap.size))) wr) := hidd ⟨_, _, rfl, hm, hbw⟩
      have p2 : ¬ ((kl.length : Int) < (kl.length : Int)) := by omega
      clear hm hbw hfr
      go_wp2_with fail
      go_ret
      exact HP.out
end Go.Proofs.YtoemahhpheobkaaGreatDoor
