/- The contract of the reference's SameTree. Condition: the trees are there. -/
import Derived.Test.YtbadnmfmncjdjaaGreatDoorTrL
import Derived.WalkLawsBesides
import Derived.Lib.Hide
import Derived.Lib.Strings
import Derived.WideShapes
namespace Go.Proofs.YtbadnmfmncjdjaaGreatDoor
open Go.RowKit

theorem Tr.bare_kids_len {a b : Lt} (h : a.bare = b.bare) : a.kids.length = b.kids.length := by
  have := congrArg (fun t : Nd => t.kids.length) h
  simpa [Tr.bare, Tr.kids_map] using this
theorem Tr.bare_iff {a b : Lt} : a.bare = b.bare ↔ a.kind = b.kind ∧ a.data = b.data ∧ a.exec = b.exec ∧ a.kids.length = b.kids.length ∧ ∀ i (h : i < a.kids.length) (h' : i < b.kids.length), a.kids[i].1 = b.kids[i].1 ∧ a.kids[i].2.bare = b.kids[i].2.bare := by
  constructor
  · intro h
    refine ⟨by simpa [Tr.bare, Tr.kind_map] using congrArg Tr.kind h, by simpa [Tr.bare, Tr.data_map] using congrArg Tr.data h, by simpa [Tr.bare, Tr.exec_map] using congrArg Tr.exec h, Tr.bare_kids_len h, fun i hi hi' => ?_⟩
    have hk := congrArg Tr.kids h
    unfold Tr.bare at hk
    rw [Tr.kids_map, Tr.kids_map] at hk
    have := congrArg (fun l => l[i]?) hk
    simp only [List.getElem?_map, List.getElem?_eq_getElem hi, List.getElem?_eq_getElem hi', Option.map_some, Option.some.injEq, Prod.mk.injEq] at this
    exact this
  · rintro ⟨h1, h2, h3, h4, h5⟩
    refine Tr.eq_of (by simpa [Tr.bare, Tr.kind_map] using h1) (by simpa [Tr.bare, Tr.data_map] using h2) (by simpa [Tr.bare, Tr.exec_map] using h3) ?_
    unfold Tr.bare
    rw [Tr.kids_map, Tr.kids_map]
    refine List.ext_getElem (by simpa using h4) (fun i hi hi' => ?_)
    simp only [List.getElem_map, Prod.mk.injEq]
    exact h5 i (by simpa using hi) (by simpa using hi')

theorem ne_str {a b : ByteArray} (h : a ≠ b) : a.toList ≠ b.toList := fun e => h (Go.WideShapes.bytes_inj (by rw [← Lib.toList_data, ← Lib.toList_data]; exact e))
theorem bne_str {a b : ByteArray} (h : a ≠ b) : (a.toList != b.toList) = true := by simpa using ne_str h
theorem beq_str {a b : ByteArray} (h : a ≠ b) : (a.toList == b.toList) = false := by simpa using ne_str h

set_option maxRecDepth 100000 in
set_option maxHeartbeats 4000000 in
theorem sameTree_any (m : Nat) : ∀ (a b : Lt) (w : World) (r : Bool), a.sz ≤ m → a.Ok w → b.Ok w → (r = true ↔ a.bare = b.bare) →
    Calls Tryz.prog 24 #[nval a, nval b] w fun e w' => e = .returned (.bool r) ∧ Below w.heap.size w w' := by
  induction m with
  | zero => intro a b w r hm; have := Tr.sz_kids a; omega
  | succ m ih =>
    intro a b w r hm ha hb hr
    obtain ⟨aa, ac, hav⟩ := ha.shape
    obtain ⟨ba, bc, hbv⟩ := hb.shape
    have hla := ha.le
    have hlb := hb.le
    have hsa := ha.sl
    have hsb := hb.sl
    rw [hav] at hsa
    rw [hbv] at hsb
    rw [Tr.bare_iff] at hr
    obtain ⟨ka, da, ea, va, ksa⟩ := a
    obtain ⟨kb, db, eb, vb, ksb⟩ := b
    simp only [Tr.kind, Tr.data, Tr.exec, Tr.v, Tr.kids] at *
    subst hav hbv
    unfold nval
    simp only [Tr.kind, Tr.data, Tr.exec, Tr.v]
    have HKA : Hid (∀ i (h : i < ksa.length), ksa[i].2.sz ≤ m) := hidd (fun i h => by have := Tr.szs_mem (List.getElem_mem h); rw [Tr.sz] at hm; omega)
    have HR := hidd hr
    clear hr hm
    by_cases h1 : ka = kb
    · have q1 : (ka.toList == kb.toList) = true := by simp [h1]
      by_cases h2 : da = db
      · have q2 : (da.toList == db.toList) = true := by simp [h2]
        by_cases h3 : ea = eb
        · by_cases h4 : ksa.length = ksb.length
          · subst h1 h2 h3
            have q4 : ((ksa.length : Int) == (ksb.length : Int)) = true := by rw [h4]; simp
            have q4' : ((ksa.length : Int) != (ksb.length : Int)) = false := by rw [h4]; simp
            have q3 : (ea == ea) = true := by cases ea <;> rfl
            have q3' : (ea != ea) = false := by cases ea <;> rfl
            have HL := hidd h4
            clear h4 hsa hsb
            go_enter Tryz.func24, Tryz.ntmps24
            go_wp2_with fail
            go_loopw [5] (fun t wr => ∃ k : Nat, k ≤ ksa.length ∧ t = .int .i64 (k : Int) ∧ (∀ i (h : i < ksa.length) (h' : i < ksb.length), i < k → ksa[i].1 = ksb[i].1 ∧ ksa[i].2.bare = ksb[i].2.bare) ∧ Below w.heap.size w wr ∧ w.heap.size + 2 ≤ wr.heap.size ∧
                wr.cell? ⟨w.heap.size, 3, none⟩ = some (.slice aa ksa.length ac) ∧ wr.cell? ⟨w.heap.size + 1, 3, none⟩ = some (.slice ba ksb.length bc)) (fun t _ => ksa.length - (intOf t).toNat)
            case atStart => exact ⟨0, Nat.zero_le _, rfl, fun i _ _ h => by omega, ((Below.refl _ _).alloc (Nat.le_refl _) _).alloc (by simp) _, by simp, by go_simp, by go_simp⟩
            case round =>
              obtain ⟨k, hk, rfl, hsame, hbel, hsz, hcA, hcB⟩ := hrel
              by_cases hlt : k < ksa.length
              · have hltb : k < ksb.length := by have := HL.out; omega
                have hxs := HKA.out k hlt
                have hA := ha.ob hbel
                have hB := hb.ob hbel
                have hxk := hA.get hlt
                have hyk := hB.get hltb
                obtain ⟨b1, o1, rfl, hb1, a0, a1, a2, a3, a4⟩ := hA.at5 rfl hlt
                obtain ⟨b2, o2, rfl, hb2, c0, c1, c2, c3, c4⟩ := hB.at5 rfl hltb
                simp only [Tr.kids] at a0 a1 a2 a3 a4 c0 c1 c2 c3 c4 hxk hyk
                have p1 : (0 : Int) ≤ (k : Int) := by omega
                have p2 : (k : Int) < (ksa.length : Int) := by omega
                have p3 : (k : Int) < (ksb.length : Int) := by omega
                obtain ⟨x, hx⟩ : ∃ x, ksa[k] = x := ⟨_, rfl⟩
                obtain ⟨y, hy⟩ : ∃ y, ksb[k] = y := ⟨_, rfl⟩
                have HX : Hid (ksa[k] = x) := hidd hx
                have HY : Hid (ksb[k] = y) := hidd hy
                rw [hx] at a0 a1 a2 a3 a4 hxk hxs
                rw [hy] at c0 c1 c2 c3 c4 hyk
                have HS := hidd hsame
                clear hx hy hsame hA hB
                by_cases hn : x.1 = y.1
                · have n1 : (x.1.toList == y.1.toList) = true := by simp [hn]
                  have HN := hidd hn
                  clear hn
                  go_wp2_with fail
                  go_quiet (fail)
                  go_wp2_with fail
                  generalize hW5 : World.drewN wr _ = w5
                  have hB5 : Below wr.heap.size wr w5 := by rw [← hW5]; exact Below.drewN _ _ _
                  clear hW5
                  have hb1' := hb1
                  have HC : Hid (∀ W, Below wr.heap.size wr W → W.cell? ⟨w.heap.size, 3, none⟩ = some (.slice (some ⟨b1, o1, none⟩) ksa.length ac) ∧ W.cell? ⟨w.heap.size + 1, 3, none⟩ = some (.slice (some ⟨b2, o2, none⟩) ksb.length bc) ∧
                      W.cell? ⟨b1, o1 + k * 5 + 1, none⟩ = some (.string x.2.kind) ∧ W.cell? ⟨b1, o1 + k * 5 + 2, none⟩ = some (.string x.2.data) ∧ W.cell? ⟨b1, o1 + k * 5 + 3, none⟩ = some (.bool x.2.exec) ∧ W.cell? ⟨b1, o1 + k * 5 + 4, none⟩ = some x.2.v ∧
                      W.cell? ⟨b2, o2 + k * 5 + 1, none⟩ = some (.string y.2.kind) ∧ W.cell? ⟨b2, o2 + k * 5 + 2, none⟩ = some (.string y.2.data) ∧ W.cell? ⟨b2, o2 + k * 5 + 3, none⟩ = some (.bool y.2.exec) ∧ W.cell? ⟨b2, o2 + k * 5 + 4, none⟩ = some y.2.v ∧ Below wr.heap.size wr W) := hidd (fun W hW =>
                    ⟨(hW.cell (p := ⟨w.heap.size, 3, none⟩) (by simp; omega)).trans hcA, (hW.cell (p := ⟨w.heap.size + 1, 3, none⟩) (by simp; omega)).trans hcB,
                     (hW.cell (p := ⟨b1, _, none⟩) hb1).trans a1, (hW.cell (p := ⟨b1, _, none⟩) hb1).trans a2, (hW.cell (p := ⟨b1, _, none⟩) hb1).trans a3, (hW.cell (p := ⟨b1, _, none⟩) hb1).trans a4,
                     (hW.cell (p := ⟨b2, _, none⟩) hb2).trans c1, (hW.cell (p := ⟨b2, _, none⟩) hb2).trans c2, (hW.cell (p := ⟨b2, _, none⟩) hb2).trans c3, (hW.cell (p := ⟨b2, _, none⟩) hb2).trans c4, hW⟩)
                  have hx5 := hxk.ob hB5.drew
                  have hy5 := hyk.ob hB5.drew
                  clear a0 a1 a2 a3 a4 c0 c1 c2 c3 c4 hcA hcB
                  by_cases hs : x.2.bare = y.2.bare
                  · have HI : Hid (∀ W, x.2.Ok W → y.2.Ok W → Calls Tryz.prog 24 #[nval x.2, nval y.2] W fun e w' => e = .returned (.bool true) ∧ Below W.heap.size W w') := hidd (fun W h1 h2 => ih x.2 y.2 W true hxs h1 h2 (by simp [hs]))
                    have HS2 : Hid (∀ i (h : i < ksa.length) (h' : i < ksb.length), i < k + 1 → ksa[i].1 = ksb[i].1 ∧ ksa[i].2.bare = ksb[i].2.bare) := hidd (fun i h h' hi => by
                      by_cases e : i = k
                      · subst e; rw [HX.out, HY.out]; exact ⟨HN.out, hs⟩
                      · exact HS.out i h h' (by omega))
                    clear hs
                    go_region_held3 (fun W => W.cell? ⟨w.heap.size, 3, none⟩ = some (.slice (some ⟨b1, o1, none⟩) ksa.length ac) ∧ W.cell? ⟨w.heap.size + 1, 3, none⟩ = some (.slice (some ⟨b2, o2, none⟩) ksb.length bc) ∧
                      W.cell? ⟨b1, o1 + k * 5 + 1, none⟩ = some (.string x.2.kind) ∧ W.cell? ⟨b1, o1 + k * 5 + 2, none⟩ = some (.string x.2.data) ∧ W.cell? ⟨b1, o1 + k * 5 + 3, none⟩ = some (.bool x.2.exec) ∧ W.cell? ⟨b1, o1 + k * 5 + 4, none⟩ = some x.2.v ∧
                      W.cell? ⟨b2, o2 + k * 5 + 1, none⟩ = some (.string y.2.kind) ∧ W.cell? ⟨b2, o2 + k * 5 + 2, none⟩ = some (.string y.2.data) ∧ W.cell? ⟨b2, o2 + k * 5 + 3, none⟩ = some (.bool y.2.exec) ∧ W.cell? ⟨b2, o2 + k * 5 + 4, none⟩ = some y.2.v ∧ Below wr.heap.size wr W)
                      (first | exact HC.out _ hB5.drew | exact HC.out _ (hB5.drew.trans (hb6.mono hB5.size)))
                      (first | (go_at_call 24; refine (HI.out _ hx5 hy5).mono ?_; rintro e w6 ⟨rfl, hb6⟩))
                    have hB6 := hB5.drew.trans (hb6.mono (hB5.drew).size)
                    have hc6 := HC.out _ hB6
                    have hsz6 := hB6.size
                    clear hx5 hy5 hxk hyk hb6 HC
                    have hcA6 := hc6.1
                    have hcB6 := hc6.2.1
                    clear hc6
                    go_wp2_with fail
                    go_roundw
                    case rel => exact ⟨k + 1, by omega, by go_num, HS2.out, hbel.trans (hB6.mono hbel.size), by omega, hcA6, hcB6⟩
                    case measure => simp [intOf]; omega
                  · have HI : Hid (∀ W, x.2.Ok W → y.2.Ok W → Calls Tryz.prog 24 #[nval x.2, nval y.2] W fun e w' => e = .returned (.bool false) ∧ Below W.heap.size W w') := hidd (fun W h1 h2 => ih x.2 y.2 W false hxs h1 h2 (by simp [hs]))
                    have HF : Hid (r = false) := hidd (by
                      cases r; rfl
                      have := ((HR.out.1 rfl).2.2.2.2 k hlt hltb).2
                      rw [HX.out, HY.out] at this
                      exact absurd this hs)
                    clear hs
                    go_region_held3 (fun W => W.cell? ⟨w.heap.size, 3, none⟩ = some (.slice (some ⟨b1, o1, none⟩) ksa.length ac) ∧ W.cell? ⟨w.heap.size + 1, 3, none⟩ = some (.slice (some ⟨b2, o2, none⟩) ksb.length bc) ∧
                      W.cell? ⟨b1, o1 + k * 5 + 1, none⟩ = some (.string x.2.kind) ∧ W.cell? ⟨b1, o1 + k * 5 + 2, none⟩ = some (.string x.2.data) ∧ W.cell? ⟨b1, o1 + k * 5 + 3, none⟩ = some (.bool x.2.exec) ∧ W.cell? ⟨b1, o1 + k * 5 + 4, none⟩ = some x.2.v ∧
                      W.cell? ⟨b2, o2 + k * 5 + 1, none⟩ = some (.string y.2.kind) ∧ W.cell? ⟨b2, o2 + k * 5 + 2, none⟩ = some (.string y.2.data) ∧ W.cell? ⟨b2, o2 + k * 5 + 3, none⟩ = some (.bool y.2.exec) ∧ W.cell? ⟨b2, o2 + k * 5 + 4, none⟩ = some y.2.v ∧ Below wr.heap.size wr W)
                      (first | exact HC.out _ hB5.drew | exact HC.out _ (hB5.drew.trans (hb6.mono hB5.size)))
                      (first | (go_at_call 24; refine (HI.out _ hx5 hy5).mono ?_; rintro e w6 ⟨rfl, hb6⟩))
                    have hB6 := hB5.drew.trans (hb6.mono (hB5.drew).size)
                    clear hx5 hy5 hxk hyk hb6 HC
                    go_wp2_with fail
                    go_ret
                    exact ⟨by rw [HF.out]; rfl, hbel.trans (hB6.mono hbel.size)⟩
                · have n1 : (x.1.toList == y.1.toList) = false := beq_str hn
                  have HF : Hid (r = false) := hidd (by
                    cases r; rfl
                    have := ((HR.out.1 rfl).2.2.2.2 k hlt hltb).1
                    rw [HX.out, HY.out] at this
                    exact absurd this hn)
                  clear hn
                  go_wp2_with fail
                  go_quiet (fail)
                  go_wp2_with fail
                  go_ret
                  exact ⟨by rw [HF.out]; rfl, by first | exact hbel | exact hbel.drew | exact hbel.trans (Below.drewN _ _ _)⟩
              · have HT : Hid (r = true) := hidd (HR.out.2 ⟨trivial, trivial, trivial, HL.out, fun i h h' => hsame i h h' (by omega)⟩)
                clear hsame
                go_wp2_with fail
                go_ret
                exact ⟨by rw [HT.out]; rfl, hbel⟩
          · have q4 : ((ksa.length : Int) != (ksb.length : Int)) = true := by rw [bne_iff_ne]; omega
            have q4' : ((ksa.length : Int) == (ksb.length : Int)) = false := by simp; omega
            have q5 : (ksa.length != ksb.length) = true := by rw [bne_iff_ne]; exact h4
            have q5' : (ksa.length == ksb.length) = false := by simpa using h4
            have q3 : (ea == eb) = true := by rw [h3]; cases eb <;> rfl
            have q3' : (ea != eb) = false := by rw [h3]; cases eb <;> rfl
            have HF : Hid (r = false) := hidd (by cases r; rfl; exact absurd (HR.out.1 rfl).2.2.2.1 h4)
            clear ha hb hsa hsb h1 h2 h3 h4
            go_enter Tryz.func24, Tryz.ntmps24
            go_wp2_with fail
            go_ret
            exact ⟨by rw [HF.out]; rfl, ((Below.refl _ _).alloc (Nat.le_refl _) _).alloc (by simp) _⟩
        · have q3 : (ea == eb) = false := by cases ea <;> cases eb <;> simp_all
          have q3' : (ea != eb) = true := by cases ea <;> cases eb <;> simp_all
          have HF : Hid (r = false) := hidd (by cases r; rfl; exact absurd (HR.out.1 rfl).2.2.1 h3)
          clear ha hb hsa hsb h1 h2 h3
          go_enter Tryz.func24, Tryz.ntmps24
          go_wp2_with fail
          go_ret
          exact ⟨by rw [HF.out]; rfl, ((Below.refl _ _).alloc (Nat.le_refl _) _).alloc (by simp) _⟩
      · have q2 : (da.toList == db.toList) = false := beq_str h2
        have HF : Hid (r = false) := hidd (by cases r; rfl; exact absurd (HR.out.1 rfl).2.1 h2)
        clear ha hb hsa hsb h1 h2
        go_enter Tryz.func24, Tryz.ntmps24
        go_wp2_with fail
        go_ret
        exact ⟨by rw [HF.out]; rfl, ((Below.refl _ _).alloc (Nat.le_refl _) _).alloc (by simp) _⟩
    · have q1 : (ka.toList == kb.toList) = false := beq_str h1
      have HF : Hid (r = false) := hidd (by cases r; rfl; exact absurd (HR.out.1 rfl).1 h1)
      clear ha hb hsa hsb h1
      go_enter Tryz.func24, Tryz.ntmps24
      go_wp2_with fail
      go_ret
      exact ⟨by rw [HF.out]; rfl, ((Below.refl _ _).alloc (Nat.le_refl _) _).alloc (by simp) _⟩
end Go.Proofs.YtbadnmfmncjdjaaGreatDoor
