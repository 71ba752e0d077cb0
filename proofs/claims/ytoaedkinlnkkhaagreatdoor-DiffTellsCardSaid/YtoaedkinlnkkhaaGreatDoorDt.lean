/- The contracts of the statements' sameChanges, ownChanges, largeChanges and faulted. Condition: as stated. · The contract of the statement's faulted; what the two ways of Diff and Apply give, in one shape. Condition: as stated. · stillroomlaw1.DiffTells, walked. Condition: the trees and the changes are there, the variables read as listed. -/
import Derived.Test.YtoaedkinlnkkhaaGreatDoorDfN
import Derived.Test.YtoaedkinlnkkhaaGreatDoorTrD
import Derived.Test.YtoaedkinlnkkhaaGreatDoorTrO
import Derived.Test.YtoaedkinlnkkhaaGreatDoorDfD
import Derived.Test.YtoaedkinlnkkhaaGreatDoorDfS
import Derived.Test.YtoaedkinlnkkhaaGreatDoorCoded
import Derived.Test.YtoaedkinlnkkhaaGreatDoorCode2
namespace Go.Proofs.YtoaedkinlnkkhaaGreatDoor
open Go.RowKit Go.Shelf

set_option maxRecDepth 100000 in
set_option maxHeartbeats 40000000 in
theorem sameCh_true (v u : Value) (ls ms : List (Ch Value)) (w : World) (hv : ChI ls v w) (hu : ChI ms u w) (he : ls.map Ch.bare = ms.map Ch.bare) :
    Calls Tryz.prog 12 #[v, u] w fun e w' => e = .returned (.bool true) ∧ Below w.heap.size w w' := by
  obtain ⟨va, vc, rfl, -⟩ := id hv.sl
  obtain ⟨ua, uc, rfl, -⟩ := id hu.sl
  have hl1 := hv.sl.le
  have hl2 := hu.sl.le
  have hlen : ls.length = ms.length := by have := congrArg List.length he; simpa using this
  have HAT : Hid (∀ i (h : i < ls.length) (h' : i < ms.length), ls[i].kind = ms[i].kind ∧ ls[i].path = ms[i].path ∧ ls[i].n.bare = ms[i].n.bare) := hidd (fun i h h' => by
    have h1 : (ls.map Ch.bare)[i]? = (ms.map Ch.bare)[i]? := by rw [he]
    simp only [List.getElem?_map, List.getElem?_eq_getElem h, List.getElem?_eq_getElem h', Option.map_some, Option.some.injEq] at h1
    exact ⟨congrArg (Ch.kind (α := Unit)) h1, congrArg (Ch.path (α := Unit)) h1, congrArg (Ch.n (α := Unit)) h1⟩)
  have HLN := hidd hlen
  have q1 : ((ls.length : Int) != (ms.length : Int)) = false := by rw [hlen]; simp
  have q2 : ((ls.length : Int) == (ms.length : Int)) = true := by rw [hlen]; simp
  have HV := hidd (fun W (h : Below w.heap.size w W) => hv.ob h)
  have HU := hidd (fun W (h : Below w.heap.size w W) => hu.ob h)
  clear hv hu he hlen
  go_enter Tryz.func12, Tryz.ntmps12
  go_wp2_with fail
  go_loopw [5, 6] (fun vi _ wr => ∃ i : Nat, i ≤ ls.length ∧ vi = .int .i64 (i : Int) ∧ Below w.heap.size w wr) (fun vi _ _ => ls.length - (intOf vi).toNat)
  case atStart => exact ⟨0, Nat.zero_le _, rfl, Below.refl _ _⟩
  case round =>
    obtain ⟨i, hi, rfl, hbel⟩ := hrel
    by_cases hlt : i < ls.length
    · have hlt2 : i < ms.length := by have := HLN.out; omega
      have hV := HV.out wr hbel
      have hU := HU.out wr hbel
      obtain ⟨b1, o1, rfl, hb1, a0, a1, a2, a3, a4, a5⟩ := sl_atc hV.sl hlt
      obtain ⟨b2, o2, rfl, hb2, g0, g1, g2, g3, g4, g5⟩ := sl_atc hU.sl hlt2
      have hco := hV.ok _ (List.getElem_mem hlt)
      have hdo := hU.ok _ (List.getElem_mem hlt2)
      obtain ⟨hk, hp, hn⟩ := HAT.out i hlt hlt2
      obtain ⟨c, hc⟩ : ∃ c, ls[i] = c := ⟨_, rfl⟩
      obtain ⟨d, hd⟩ : ∃ d, ms[i] = d := ⟨_, rfl⟩
      rw [hc] at a0 a1 a2 a3 a4 a5 hco hk hp hn
      rw [hd] at g0 g1 g2 g3 g4 g5 hdo hk hp hn
      clear hc hd hV hU
      have hz0 : Below wr.heap.size wr wr.drew := (Below.refl _ _).drew
      have HSM := hidd (sameTree_any _ c.n d.n wr.drew true (Nat.le_refl _) (hco.ob hz0) (hdo.ob hz0) ⟨fun _ => hn, fun _ => rfl⟩)
      obtain ⟨na, nc, hnv⟩ := hco.shape
      obtain ⟨ma, mc, hmv⟩ := hdo.shape
      obtain ⟨kc, pc, ⟨kn, dn, en, vn, ksn⟩⟩ := c
      obtain ⟨kd, pd, ⟨km, dm, em, vm, ksm⟩⟩ := d
      simp only [Tr.v, Tr.kids, Tr.kind, Tr.data, Tr.exec] at hnv hmv a0 a1 a2 a3 a4 a5 g0 g1 g2 g3 g4 g5 hk hp
      subst hnv hmv hk hp
      simp only [nval, Tr.kind, Tr.data, Tr.exec, Tr.v] at HSM
      have p1 : (0 : Int) ≤ (i : Int) := by omega
      have p2 : (i : Int) < (ls.length : Int) := by omega
      have p3 : (i : Int) < (ms.length : Int) := by omega
      have k1 : (kc.toList == kc.toList) = true := beq_self_eq_true _
      have k2 : (pc.toList == pc.toList) = true := beq_self_eq_true _
      have HSC : Hid (∀ W, Below wr.heap.size wr W → W.cell? ⟨b1, o1 + i * 6 + 2, none⟩ = some (.string kn) ∧ W.cell? ⟨b1, o1 + i * 6 + 3, none⟩ = some (.string dn) ∧ W.cell? ⟨b1, o1 + i * 6 + 4, none⟩ = some (.bool en) ∧ W.cell? ⟨b1, o1 + i * 6 + 5, none⟩ = some (.slice na ksn.length nc) ∧
          W.cell? ⟨b2, o2 + i * 6 + 2, none⟩ = some (.string km) ∧ W.cell? ⟨b2, o2 + i * 6 + 3, none⟩ = some (.string dm) ∧ W.cell? ⟨b2, o2 + i * 6 + 4, none⟩ = some (.bool em) ∧ W.cell? ⟨b2, o2 + i * 6 + 5, none⟩ = some (.slice ma ksm.length mc)) := hidd (fun W h =>
        ⟨(h.cell (p := ⟨b1, _, none⟩) hb1).trans a2, (h.cell (p := ⟨b1, _, none⟩) hb1).trans a3, (h.cell (p := ⟨b1, _, none⟩) hb1).trans a4, (h.cell (p := ⟨b1, _, none⟩) hb1).trans a5, (h.cell (p := ⟨b2, _, none⟩) hb2).trans g2, (h.cell (p := ⟨b2, _, none⟩) hb2).trans g3, (h.cell (p := ⟨b2, _, none⟩) hb2).trans g4, (h.cell (p := ⟨b2, _, none⟩) hb2).trans g5⟩)
      have HSK : Hid (∀ W, Below wr.heap.size wr W → W.cell? ⟨b1, o1 + i * 6, none⟩ = some (.string kc) ∧ W.cell? ⟨b1, o1 + i * 6 + 1, none⟩ = some (.string pc) ∧ W.cell? ⟨b2, o2 + i * 6, none⟩ = some (.string kc) ∧ W.cell? ⟨b2, o2 + i * 6 + 1, none⟩ = some (.string pc)) := hidd (fun W h =>
        ⟨(h.cell (p := ⟨b1, _, none⟩) hb1).trans a0, (h.cell (p := ⟨b1, _, none⟩) hb1).trans a1, (h.cell (p := ⟨b2, _, none⟩) hb2).trans g0, (h.cell (p := ⟨b2, _, none⟩) hb2).trans g1⟩)
      have hbz := hbel.size
      clear a0 a1 a2 a3 a4 a5 g0 g1 g2 g3 g4 g5 hco hdo hn
      go_upto_region 6 with fail
      first
        | (go_region_held3 (fun W => W.cell? ⟨b1, o1 + i * 6 + 2, none⟩ = some (.string kn) ∧ W.cell? ⟨b1, o1 + i * 6 + 3, none⟩ = some (.string dn) ∧ W.cell? ⟨b1, o1 + i * 6 + 4, none⟩ = some (.bool en) ∧ W.cell? ⟨b1, o1 + i * 6 + 5, none⟩ = some (.slice na ksn.length nc) ∧
              W.cell? ⟨b2, o2 + i * 6 + 2, none⟩ = some (.string km) ∧ W.cell? ⟨b2, o2 + i * 6 + 3, none⟩ = some (.string dm) ∧ W.cell? ⟨b2, o2 + i * 6 + 4, none⟩ = some (.bool em) ∧ W.cell? ⟨b2, o2 + i * 6 + 5, none⟩ = some (.slice ma ksm.length mc))
            (first | exact HSC.out _ hz0 | exact HSC.out _ hz5)
            (first
              | (go_at_call 17; (with_reducible refine HSM.out.mono ?_); rintro e w5 ⟨rfl, hb5⟩; have hz5 := hz0.trans hb5)))
        | fail
      obtain ⟨a0, a1, g0, g1⟩ := HSK.out _ hz5
      have hb6 := hbel.trans (hz5.mono hbz)
      have HB6 := hidd hb6
      clear hz5 hb5 hz0 HSC HSK HSM hb6 hbel
      go_upto_region 7 with fail
      go_quiet (fail)
      have HB7 := hidd (HB6.out.trans (Below.drewN w.heap.size w5 nq))
      clear HB6 a0 a1 g0 g1
      go_wp2_with fail
      go_roundw
      case rel => exact ⟨i + 1, by omega, by go_num, HB7.out⟩
      case measure => simp [intOf]; omega
    · go_wp2_with fail
      go_ret
      exact ⟨rfl, hbel⟩

/-- Own changes, under way. -/
structure OcI (w : World) (ls : List (Ch Value)) (v : Value) (W : World) : Prop where
  ow : Ow (fun g => w.heap.size ≤ g) W 60 6 v ls.length (chcells ls)
  ok : ∀ c ∈ ls, c.n.Ok W
  inn : ∀ c ∈ ls, c.n.In (fun b => b < W.heap.size ∧ v.ownBlock ≠ some b)
  bel : Below w.heap.size w W
theorem OcI.later {w W W' : World} {ls : List (Ch Value)} {v : Value} (h : OcI w ls v W) (hb : Below W.heap.size W W') : OcI w ls v W' :=
  ⟨h.ow.ob hb, fun c hc => (h.ok c hc).ob hb, fun c hc => in_mono (fun b hh => ⟨by have := hb.size; omega, hh.2⟩) c.n (h.inn c hc), h.bel.trans (hb.mono h.bel.size)⟩
theorem OcI.app {w W W' : World} {ls : List (Ch Value)} {v v' : Value} {c : Ch Value} (h : OcI w ls v W) (hF : Fr (fun b => v.ownBlock = some b) W W') (how : Ow (fun g => W.heap.size ≤ g ∨ v.ownBlock = some g) W' 60 6 v' (ls.length + 1) (chcells ls ++ chcells [c]))
    (hk : c.n.Ok W) (hki : c.n.In (fun b => b < W.heap.size ∧ v.ownBlock ≠ some b)) : OcI w (ls ++ [c]) v' W' := by
  have hz := hF.size
  have hob := h.ow.blk
  have hnb := how.blk
  have key : ∀ b, (b < W.heap.size ∧ v.ownBlock ≠ some b) → b < W'.heap.size ∧ v'.ownBlock ≠ some b := fun b hh => ⟨by omega, fun e => by
    rcases (hnb b e).1 with h2 | h2
    · omega
    · exact hh.2 h2⟩
  refine ⟨?_, fun x hx => ?_, fun x hx => ?_, h.bel.trans (hF.below h.bel.size (fun b e => (hob b e).1))⟩
  · rw [chcells_app, List.length_append]
    exact how.mono (fun g hg => by
      rcases hg with h1 | h1
      · have := h.bel.size; omega
      · exact (hob g h1).1)
  · rcases List.mem_append.1 hx with h1 | h1
    · exact ok_fr hF x.n (h.ok x h1) (in_mono (fun b hb e => hb.2 e) x.n (h.inn x h1))
    · simp only [List.mem_cons, List.not_mem_nil, or_false] at h1
      subst h1
      exact ok_fr hF x.n hk (in_mono (fun b hb e => hb.2 e) x.n hki)
  · rcases List.mem_append.1 hx with h1 | h1
    · exact in_mono key x.n (h.inn x h1)
    · simp only [List.mem_cons, List.not_mem_nil, or_false] at h1
      subst h1
      exact in_mono key x.n hki

set_option maxRecDepth 100000 in
set_option maxHeartbeats 40000000 in
theorem ownCh_any (v : Value) (ls : List (Ch Value)) (w : World) (hv : ChI ls v w) (hl : ls.length ≤ 1000) (hs : ∀ c ∈ ls, c.n.sz ≤ 300) :
    Calls Tryz.prog 14 #[v] w fun e w' => ∃ (ms : List (Ch Value)) (u : Value), e = .returned u ∧ ChI ms u w' ∧ ms.map Ch.bare = ls.map Ch.bare ∧ Below w.heap.size w w' := by
  obtain ⟨va, vc, rfl, -⟩ := id hv.sl
  obtain ⟨i0, hi0, hz0, hz1, hz2⟩ := info_parts infoCh
  have hl1 := hv.sl.le
  have HV := hidd (fun W (h : Below w.heap.size w W) => hv.ob h)
  have HSZ := hidd hs
  clear hv hs
  go_enter Tryz.func14, Tryz.ntmps14
  go_wp2_with fail
  go_loopw [3, 4, 5] (fun vv vi _ wr => ∃ (i : Nat) (ms : List (Ch Value)), i ≤ ls.length ∧ vi = .int .i64 (i : Int) ∧ ms.length = i ∧ ms.map Ch.bare = (ls.take i).map Ch.bare ∧ OcI w ms vv wr) (fun _ vi _ _ => ls.length - (intOf vi).toNat)
  case atStart => exact ⟨0, [], Nat.zero_le _, rfl, rfl, rfl, Ow.nil _ _ _ _, (fun c hc => by cases hc), (fun c hc => by cases hc), Below.refl _ _⟩
  case round =>
    obtain ⟨i, ms, hi, rfl, hml, hmb, hrel⟩ := hrel
    obtain ⟨ua, uc, hvv⟩ := hrel.ow.shape
    subst hvv
    by_cases hlt : i < ls.length
    · have hV := HV.out wr hrel.bel
      obtain ⟨b1, o1, rfl, hb1, a0, a1, a2, a3, a4, a5⟩ := sl_atc hV.sl hlt
      have hco := hV.ok _ (List.getElem_mem hlt)
      have hcs := HSZ.out _ (List.getElem_mem hlt)
      have htk : ls.take (i + 1) = ls.take i ++ [ls[i]] := List.take_succ_eq_append_getElem hlt
      obtain ⟨c, hc⟩ : ∃ c, ls[i] = c := ⟨_, rfl⟩
      rw [hc] at a0 a1 a2 a3 a4 a5 hco hcs htk
      have HTK : Hid (ms.map Ch.bare ++ [c.bare] = (ls.take (i + 1)).map Ch.bare) := hidd (by rw [htk, List.map_append, hmb]; rfl)
      have HML := hidd hml
      clear hc hV htk hmb hml
      have p1 : (0 : Int) ≤ (i : Int) := by omega
      have p2 : (i : Int) < (ls.length : Int) := by omega
      have hbw := hrel.bel.size
      have HC := hidd (fun W (h : Below wr.heap.size wr W) => own_any 300 c.n W hcs (Nat.le_refl _) (hco.ob h))
      obtain ⟨na, nc, hnv⟩ := hco.shape
      obtain ⟨kc, pc, ⟨kn, dn, en, vn, ksn⟩⟩ := c
      simp only [Tr.v, Tr.kids, Tr.kind, Tr.data, Tr.exec] at hnv a0 a1 a2 a3 a4 a5
      subst hnv
      simp only [nval, Tr.kind, Tr.data, Tr.exec, Tr.v] at HC
      have hA1 : Below wr.heap.size wr (wr.alloc (.cells #[.string kc, .string pc, .string kn, .string dn, .bool en, .slice na ksn.length nc] 60)) := (Below.refl _ _).alloc (Nat.le_refl _) _
      have hq1 := Blk.new wr [.string kc, .string pc, .string kn, .string dn, .bool en, .slice na ksn.length nc] 60
      have HC1 := hidd (HC.out _ hA1)
      have HRL := hidd hrel
      have HA1 := hidd hA1
      clear hrel hco hcs hA1 HC
      go_wp2_with fail
      refine HC1.out.mono ?_
      rintro e w5 ⟨xa, xc, ksx, rfl, hbr, hok, hin, hb5⟩
      simp only [Tr.kind, Tr.data, Tr.exec] at hbr hok hin ⊢
      have hb5w := HA1.out.trans (hb5.mono HA1.out.size)
      have hq5 := hq1.below hb5 hq1.lt
      have hsz1 : (wr.alloc (.cells #[.string kc, .string pc, .string kn, .string dn, .bool en, .slice na ksn.length nc] 60)).heap.size = wr.heap.size + 1 := by simp
      have f2 := hq5.frozen 2
      have f3 := hq5.frozen 3
      have f4 := hq5.frozen 4
      have f5 := hq5.frozen 5
      have c2 := hq5.cell (i := 2) rfl
      have c3 := hq5.cell (i := 3) rfl
      have c4 := hq5.cell (i := 4) rfl
      have c5 := hq5.cell (i := 5) rfl
      have hq6 := (((hq5.set 2 (.string kn)).set 3 (.string dn)).set 4 (.bool en)).set 5 (.slice xa ksx.length xc)
      have hF6 := ((((Fr.refl (fun b => b = wr.heap.size) w5).setCell (p := ⟨wr.heap.size, 2, none⟩) (.inl rfl) (.string kn)).setCell (p := ⟨wr.heap.size, 3, none⟩) (.inl rfl) (.string dn)).setCell (p := ⟨wr.heap.size, 4, none⟩) (.inl rfl) (.bool en)).setCell (p := ⟨wr.heap.size, 5, none⟩) (.inl rfl) (.slice xa ksx.length xc)
      have hwl : wr.heap.size ≤ w5.heap.size := Nat.le_of_lt hq5.lt
      have hb6 := hb5w.trans (hF6.below hwl (fun b e => by omega))
      have hno := ok_fr hF6 _ hok (in_mono (fun b hb e => by omega) _ hin)
      have hobl : ∀ b, (Value.slice ua ms.length uc).ownBlock = some b → b < wr.heap.size := fun b e => (HRL.out.ow.blk b e).2
      have hsz6 := hF6.size
      have hni := in_mono (G := fun b => b < ((((w5.setCell ⟨wr.heap.size, 2, none⟩ (.string kn)).setCell ⟨wr.heap.size, 3, none⟩ (.string dn)).setCell ⟨wr.heap.size, 4, none⟩ (.bool en)).setCell ⟨wr.heap.size, 5, none⟩ (.slice xa ksx.length xc)).heap.size ∧ (Value.slice ua ms.length uc).ownBlock ≠ some b) (fun b hb => ⟨by omega, fun e => by have := hobl b e; omega⟩) _ hin
      clear a0 a1 a2 a3 a4 a5 HC1 hq1 hq5 hin hok hb5 hb5w hF6 hsz6 hsz1 hwl hobl
      go_upto_region 7 with fail
      clear f2 f3 f4 f5 c2 c3 c4 c5
      have hNl := hq6.lt
      generalize ((((w5.setCell ⟨wr.heap.size, 2, none⟩ (.string kn)).setCell ⟨wr.heap.size, 3, none⟩ (.string dn)).setCell ⟨wr.heap.size, 4, none⟩ (.bool en)).setCell ⟨wr.heap.size, 5, none⟩ (.slice xa ksx.length xc)) = w6 at *
      have e0 := hq6.cell (i := 0) rfl
      have e1 := hq6.cell (i := 1) rfl
      have e2 := hq6.cell (i := 2) rfl
      have e3 := hq6.cell (i := 3) rfl
      have e4 := hq6.cell (i := 4) rfl
      have e5 := hq6.cell (i := 5) rfl
      have hA2 : Below w6.heap.size w6 (w6.alloc (.cells [Value.string kc, .string pc, .string kn, .string dn, .bool en, .slice xa ksx.length xc].toArray 60)) := (Below.refl _ _).alloc (Nat.le_refl _) _
      have hO7 := (HRL.out.later hb6).later hA2
      have how1 := hO7.ow.self
      have hs1 := Src.new (P := Tryz.prog) (size := 6) (tx := 25) Tryz.underlying25 w6 w6.heap.size rfl [.string kc, .string pc, .string kn, .string dn, .bool en, .slice xa ksx.length xc] 60 rfl (by intro u hu; simp only [List.mem_cons, List.not_mem_nil, or_false] at hu; rcases hu with rfl | rfl | rfl | rfl | rfl | rfl <;> rfl) 1
      have HO7 := hidd hO7
      have HNO := hidd (hno.ob hA2)
      have HNI := hidd (in_mono (G := fun b => b < (w6.alloc (.cells [Value.string kc, .string pc, .string kn, .string dn, .bool en, .slice xa ksx.length xc].toArray 60)).heap.size ∧ (Value.slice ua ms.length uc).ownBlock ≠ some b) (fun b hb => ⟨by have h1 := hA2.size; omega, hb.2⟩) _ hni)
      have HBR := hidd hbr
      have hml9 : ms.length ≤ 1000 := by have := HML.out; omega
      clear hO7 hno hni hA2 hb6 hbr hq6
      go_wp2_with (at_builtin; refine wpList_append_ow _ rfl _ _ 25 25 rfl (fun g => (w6.alloc (.cells [Value.string kc, .string pc, .string kn, .string dn, .bool en, .slice xa ksx.length xc].toArray 60)).heap.size ≤ g ∨ (Value.slice ua ms.length uc).ownBlock = some g) ?cF 60 i0 _ 6 96 Tryz.underlying25 hi0 hz0 hz1 hz2 rfl (by decide) _ _ _ rfl (how1.mono (fun g hg => .inr hg)) _ _ _ rfl hs1 ?c3 ?c4 ?_)
      case cF => intro g hg; exact .inl hg
      case c3 => unfold maxLen; omega
      case c4 => omega
      intro v7 w7 how7 hg7
      obtain ⟨v7a, v7c, hv7⟩ := how7.shape
      have HR7 := hidd (HO7.out.app (c := ⟨kc, pc, .mk kn dn en (.slice xa ksx.length xc) ksx⟩) ((Fr.refl _ _).grown hg7 (fun g hg => .inl hg)) (how7.mono (fun g hg => by
        rcases hg with h | h
        · exact .inl (by simpa using h)
        · exact .inr h)) HNO.out HNI.out)
      have HB7 : Hid ((ms ++ [(⟨kc, pc, .mk kn dn en (.slice xa ksx.length xc) ksx⟩ : Ch Value)]).map Ch.bare = (ls.take (i + 1)).map Ch.bare) := hidd (by rw [← HTK.out, List.map_append]; unfold Ch.bare; simp only [List.map_cons, List.map_nil]; rw [HBR.out])
      have HL7 : Hid ((ms ++ [(⟨kc, pc, .mk kn dn en (.slice xa ksx.length xc) ksx⟩ : Ch Value)]).length = i + 1) := hidd (by rw [List.length_append, HML.out]; rfl)
      clear how7 hg7 how1 hs1 HO7 HNO HNI e0 e1 e2 e3 e4 e5
      subst hv7
      go_wp2_with fail
      go_roundw
      case rel => exact ⟨i + 1, _, by omega, by go_num, HL7.out, HB7.out, HR7.out⟩
      case measure => simp [intOf]; omega
    · obtain rfl : i = ls.length := by omega
      rw [List.take_of_length_le (Nat.le_refl _)] at hmb
      have HR : Hid (∃ (ms : List (Ch Value)) (u : Value), Ending.returned (Value.slice ua ls.length uc) = .returned u ∧ ChI ms u wr ∧ ms.map Ch.bare = ls.map Ch.bare ∧ Below w.heap.size w wr) := hidd ⟨ms, _, rfl, ⟨by have h := hrel.ow.sl; rw [hml] at h; rw [hml]; exact h, hrel.ok⟩, hmb, hrel.bel⟩
      rw [hml]
      clear hml hmb hrel
      go_wp2_with fail
      go_ret
      exact HR.out

theorem large_num4 (t : Lt) (most : Nat) (hm : most ≤ 300) : ∃ r : Int, (0 ≤ r ∧ r ≤ 1) ∧ (r = 0 ↔ SmallL most t) ∧ Hid (∀ W, t.Ok W → Calls Tryz.prog 6 #[nval t, .int .i64 (most : Int)] W fun e w' => e = .returned (.int .i64 r) ∧ Below W.heap.size W w') := by
  by_cases h : SmallL most t
  · exact ⟨0, by omega, ⟨fun _ => h, fun _ => rfl⟩, hidd (fun W ht => (large_fn t most W ht hm).mono fun _ _ ⟨k, hb⟩ => ⟨k.elim (fun k => k.1) (fun k => absurd h k.2), hb⟩)⟩
  · exact ⟨1, by omega, ⟨fun e => by omega, fun h' => absurd h' h⟩, hidd (fun W ht => (large_fn t most W ht hm).mono fun _ _ ⟨k, hb⟩ => ⟨k.elim (fun k => absurd k.2 h) (fun k => k.1), hb⟩)⟩
/-- A change that a statement looks at. -/
def ChS (c : Ch Value) : Prop := c.kind.size ≤ 20 ∧ c.path.size ≤ 150 ∧ SmallL 60 c.n
open Classical in
/-- Are changes too many, or too large? -/
noncomputable def largeC (ls : List (Ch Value)) : Bool := !decide (ls.length ≤ 20 ∧ ∀ c ∈ ls, ChS c)
theorem largeC_no {ls : List (Ch Value)} (h : largeC ls = false) : ls.length ≤ 20 ∧ ∀ c ∈ ls, ChS c := by unfold largeC at h; simpa using h
theorem largeC_yes {ls : List (Ch Value)} {c : Ch Value} (hc : c ∈ ls) (h : ¬ ChS c) : largeC ls = true := by
  cases hh : largeC ls with
  | true => rfl
  | false => exact absurd ((largeC_no hh).2 c hc) h
theorem largeC_of {ls : List (Ch Value)} (h : ls.length ≤ 20) (h2 : ∀ c ∈ ls, ChS c) : largeC ls = false := by unfold largeC; simp only [Bool.not_eq_false', decide_eq_true_eq]; exact ⟨h, h2⟩
theorem largeC_many {ls : List (Ch Value)} (h : 20 < ls.length) : largeC ls = true := by
  cases hh : largeC ls with
  | true => rfl
  | false => have := (largeC_no hh).1; omega

set_option maxRecDepth 100000 in
set_option maxHeartbeats 40000000 in
theorem largeCh_any (v : Value) (ls : List (Ch Value)) (w : World) (hv : ChI ls v w) :
    Calls Tryz.prog 7 #[v] w fun e w' => e = .returned (.bool (largeC ls)) ∧ Below w.heap.size w w' := by
  obtain ⟨va, vc, rfl, -⟩ := id hv.sl
  have hl1 := hv.sl.le
  by_cases h20 : ls.length ≤ 20
  · have HV := hidd (fun W (h : Below w.heap.size w W) => hv.ob h)
    obtain ⟨R, hR⟩ : ∃ R, largeC ls = R := ⟨_, rfl⟩
    have HRR := hidd hR
    rw [hR]
    have e0 : decide ((20 : Int) < (ls.length : Int)) = false := decide_eq_false (by omega)
    clear hv hR
    go_enter Tryz.func7, Tryz.ntmps7
    go_wp2_with fail
    go_loopw [3] (fun vi wr => ∃ i : Nat, i ≤ ls.length ∧ vi = .int .i64 (i : Int) ∧ (∀ c ∈ ls.take i, ChS c) ∧ Below w.heap.size w wr) (fun vi _ => ls.length - (intOf vi).toNat)
    case atStart => exact ⟨0, Nat.zero_le _, rfl, (fun c hc => by cases hc), Below.refl _ _⟩
    case round =>
      obtain ⟨i, hi, rfl, hall, hbel⟩ := hrel
      by_cases hlt : i < ls.length
      · have hV := HV.out wr hbel
        obtain ⟨b1, o1, rfl, hb1, a0, a1, a2, a3, a4, a5⟩ := sl_atc hV.sl hlt
        have hco := hV.ok _ (List.getElem_mem hlt)
        have hcm := List.getElem_mem hlt
        have htk : ls.take (i + 1) = ls.take i ++ [ls[i]] := List.take_succ_eq_append_getElem hlt
        obtain ⟨c, hc⟩ : ∃ c, ls[i] = c := ⟨_, rfl⟩
        rw [hc] at a0 a1 a2 a3 a4 a5 hco hcm htk
        have HNX : Hid (ChS c → ∀ x ∈ ls.take (i + 1), ChS x) := hidd (fun h x hx => by
          rw [htk] at hx
          rcases List.mem_append.1 hx with hx | hx
          · exact hall x hx
          · simp only [List.mem_cons, List.not_mem_nil, or_false] at hx; subst hx; exact h)
        have HBAD : Hid (¬ ChS c → R = true) := hidd (fun h => by rw [← HRR.out]; exact largeC_yes hcm h)
        clear hc hV htk hcm hall
        have p1 : (0 : Int) ≤ (i : Int) := by omega
        have p2 : (i : Int) < (ls.length : Int) := by omega
        have hbw := hbel.size
        obtain ⟨r, hr, hr0, HLR⟩ := large_num4 c.n 60 (by omega)
        have HC := hidd (HLR.out wr hco)
        have HR0 := hidd hr0
        obtain ⟨na, nc, hnv⟩ := hco.shape
        obtain ⟨kc, pc, ⟨kn, dn, en, vn, ksn⟩⟩ := c
        simp only [Tr.v, Tr.kids, Tr.kind, Tr.data, Tr.exec] at hnv a0 a1 a2 a3 a4 a5
        subst hnv
        simp only [nval, Tr.kind, Tr.data, Tr.exec, Tr.v, Int.cast_ofNat_Int] at HC
        clear hco hr0 HLR
        by_cases hk : kc.size ≤ 20
        · have e1 : decide ((20 : Int) < (kc.size : Int)) = false := decide_eq_false (by omega)
          by_cases hp : pc.size ≤ 150
          · have e2 : decide ((150 : Int) < (pc.size : Int)) = false := decide_eq_false (by omega)
            by_cases hrz : r = 0
            · have e3 : decide (0 < r) = false := decide_eq_false (by omega)
              have HOK : Hid (ChS ⟨kc, pc, .mk kn dn en (.slice na ksn.length nc) ksn⟩) := hidd ⟨hk, hp, HR0.out.1 hrz⟩
              clear hk hp hrz
              go_wp2_with fail
              refine HC.out.mono ?_
              rintro e w5 ⟨rfl, hb5⟩
              have HB5 := hidd (hbel.trans (hb5.mono hbw))
              clear hb5 a0 a1 a2 a3 a4 a5 hbel
              go_wp2_with fail
              go_roundw
              case rel => exact ⟨i + 1, by omega, by go_num, HNX.out HOK.out, HB5.out⟩
              case measure => simp [intOf]; omega
            · have e3 : decide (0 < r) = true := decide_eq_true (by omega)
              have HNO : Hid (R = true) := hidd (HBAD.out (fun h => hrz (HR0.out.2 h.2.2)))
              clear hk hp hrz
              go_wp2_with fail
              refine HC.out.mono ?_
              rintro e w5 ⟨rfl, hb5⟩
              have HB5 := hidd (hbel.trans (hb5.mono hbw))
              clear hb5 a0 a1 a2 a3 a4 a5 hbel
              go_wp2_with fail
              go_ret
              exact ⟨by rw [HNO.out]; rfl, HB5.out⟩
          · have e2 : decide ((150 : Int) < (pc.size : Int)) = true := decide_eq_true (by omega)
            have HNO : Hid (R = true) := hidd (HBAD.out (fun h => hp h.2.1))
            clear hk hp hr HC HR0
            go_wp2_with fail
            go_ret
            exact ⟨by rw [HNO.out]; rfl, hbel⟩
        · have e1 : decide ((20 : Int) < (kc.size : Int)) = true := decide_eq_true (by omega)
          have HNO : Hid (R = true) := hidd (HBAD.out (fun h => hk h.1))
          clear hk hr HC HR0
          go_wp2_with fail
          go_ret
          exact ⟨by rw [HNO.out]; rfl, hbel⟩
      · rw [List.take_of_length_le (by omega)] at hall
        have HNO : Hid (R = false) := hidd (by rw [← HRR.out]; exact largeC_of h20 hall)
        clear hall
        go_wp2_with fail
        go_ret
        exact ⟨by rw [HNO.out]; rfl, hbel⟩
  · have e0 : decide ((20 : Int) < (ls.length : Int)) = true := decide_eq_true (by omega)
    have HNO := hidd (largeC_many (ls := ls) (by omega))
    rw [HNO.out]
    clear h20 hv
    go_enter Tryz.func7, Tryz.ntmps7
    go_wp2_with fail
    go_ret
    exact ⟨rfl, Below.refl _ _⟩
end Go.Proofs.YtoaedkinlnkkhaaGreatDoor

namespace Go.Proofs.YtoaedkinlnkkhaaGreatDoor
open Go.RowKit Go.Shelf
theorem faulted_true (v : Value) (c : Nat) (at_ at2 : Int) (w : World) (hc : Calls Tryz.prog 30 #[v] (w.alloc (.cells #[.int .i64 (c : Int), .int .i64 at_] 42)) fun e w' => e = .returned (.tuple #[.int .i64 (c : Int), .int .i64 at2]) ∧ Below (w.alloc (.cells #[.int .i64 (c : Int), .int .i64 at_] 42)).heap.size (w.alloc (.cells #[.int .i64 (c : Int), .int .i64 at_] 42)) w')
    (h : c = 0 ∨ at2 = at_) : Calls Tryz.prog 16 #[v, .agg #[.int .i64 (c : Int), .int .i64 at_]] w fun e w' => e = .returned (.bool true) ∧ Below w.heap.size w w' := by
  have hq := Blk.new w [.int .i64 (c : Int), .int .i64 at_] 42
  have hB := (Below.refl w.heap.size w).alloc (Nat.le_refl _) (.cells #[.int .i64 (c : Int), .int .i64 at_] 42)
  have HC := hidd hc
  have e1 : ((c : Int) == (c : Int)) = true := beq_self_eq_true _
  clear hc
  by_cases h0 : c = 0
  · subst h0
    clear h
    go_enter Tryz.func16, Tryz.ntmps16
    go_wp2_with fail
    refine HC.out.mono ?_
    rintro e w3 ⟨rfl, hb3⟩
    have hq3 := hq.below hb3 hq.lt
    have c0 := hq3.cell (i := 0) rfl
    have c1 := hq3.cell (i := 1) rfl
    have HB3 := hidd (hB.trans (hb3.mono hB.size))
    clear hq hq3 hb3 hB HC
    go_wp2_with fail
    go_ret
    exact ⟨rfl, HB3.out⟩
  · have h2 : at2 = at_ := h.resolve_left h0
    subst h2
    have e2 : ((c : Int) == 0) = false := by rw [beq_eq_false_iff_ne]; omega
    have e3 : (at2 == at2) = true := beq_self_eq_true _
    clear h h0
    go_enter Tryz.func16, Tryz.ntmps16
    go_wp2_with fail
    refine HC.out.mono ?_
    rintro e w3 ⟨rfl, hb3⟩
    have hq3 := hq.below hb3 hq.lt
    have c0 := hq3.cell (i := 0) rfl
    have c1 := hq3.cell (i := 1) rfl
    have HB3 := hidd (hB.trans (hb3.mono hB.size))
    clear hq hq3 hb3 hB HC
    go_wp2_with fail
    go_ret
    exact ⟨rfl, HB3.out⟩

open Classical in
/-- What Diff gives: an error's number, changes. -/
noncomputable def dfOut (a b : Nd) : Nat × List (Ch Unit) := if treeE a ≠ 0 then (treeE a, []) else if treeE b ≠ 0 then (treeE b, []) else (0, diffOf a b)
open Classical in
/-- What Apply gives: an error's number and place, a tree. -/
noncomputable def apOut (t : Nd) (l : List (Ch Unit)) : Nat × Int × Nd := if treeE t ≠ 0 then (treeE t, -1, NdZ) else match applyL 0 t l with
  | .error (c, i) => (c, (i : Int), NdZ)
  | .ok y => (0, -1, y)
def DoP (ev : Nat → Value) (a b : Nd) (w : World) (e : Ending) (w' : World) : Prop :=
  ∃ (ls : List (Ch Value)) (va : Option Addr) (vc c : Nat), e = .returned (.tuple #[.slice va ls.length vc, ev c]) ∧ Below w.heap.size w w' ∧ c ≤ 10 ∧ Hid (ChI ls (.slice va ls.length vc) w') ∧ Hid (dfOut a b = (c, ls.map Ch.bare))
theorem do_err {ev : Nat → Value} {a b : Nd} {w w' : World} {c : Nat} (hc : c = treeE a ∨ treeE a = 0 ∧ c = treeE b) (h0 : c ≠ 0) (h1 : c ≤ 10) (hb : Below w.heap.size w w') : DoP ev a b w (.returned (.tuple #[.slice none 0 0, ev c])) w' := by
  refine ⟨[], none, 0, c, rfl, hb, h1, ⟨Sl.nil _ _, fun x hx => by cases hx⟩, ?_⟩
  show dfOut a b = (c, [])
  unfold dfOut
  rcases hc with rfl | ⟨ha, rfl⟩
  · rw [if_pos h0]
  · rw [if_neg (by simpa using ha), if_pos h0]
theorem do_ok {ev : Nat → Value} {a b : Nd} {w w' : World} {ls : List (Ch Value)} {v : Value} (ha : treeE a = 0) (hb0 : treeE b = 0) (hm : ls.map Ch.bare = diffOf a b) (hc : ChI ls v w') (hb : Below w.heap.size w w') : DoP ev a b w (.returned (.tuple #[v, ev 0])) w' := by
  obtain ⟨va, vc, rfl, -⟩ := id hc.sl
  refine ⟨ls, va, vc, 0, rfl, hb, Nat.zero_le _, hc, ?_⟩
  show dfOut a b = (0, ls.map Ch.bare)
  unfold dfOut
  rw [if_neg (by simpa using ha), if_neg (by simpa using hb0), hm]
theorem DiffP.out {E : Nat → Addr} {a b : Nd} {w w' : World} {e : Ending} (h : DiffP E a b w e w') : DoP (evc E) a b w e w' := by
  obtain ⟨hb, ⟨c, hc, h0, h1, rfl⟩ | ⟨ls, v, ha, hb0, rfl, hm, hc⟩⟩ := h
  · exact do_err hc h0 h1 hb
  · exact do_ok ha hb0 hm hc hb
theorem RdfP.out {a b : Nd} {w w' : World} {e : Ending} (h : RdfP a b w e w') : DoP numV a b w e w' := by
  obtain ⟨hb, ⟨c, hc, h0, h1, rfl⟩ | ⟨ls, v, ha, hb0, rfl, hm, hc⟩⟩ := h
  · exact do_err hc h0 h1 hb
  · exact do_ok ha hb0 hm hc hb

/-- What an error value tells: its number and place. -/
def FaV (E : Nat → Addr) (v : Value) (c : Nat) (at_ : Int) (W : World) : Prop := (c = 0 ∧ v = .nilIface) ∨ (c ≠ 0 ∧ at_ = -1 ∧ v = evc E c) ∨ (c ≠ 0 ∧ ∃ f, v = .iface 75 (.pointer (some ⟨f, 0, none⟩)) ∧ Blk W f [.int .i64 at_, evc E c] 77)
theorem FaV.code {E : Nat → Addr} {B : Nat} {v : Value} {c : Nat} {at_ : Int} {W W' : World} (h : FaV E v c at_ W) (hc : c ≤ 10) (hb : Below W.heap.size W W') (hE : Env codeGs B W' E) (hh : Hnd W') :
    ∃ at2 : Int, (c = 0 ∨ at2 = at_) ∧ Calls Tryz.prog 30 #[v] W' fun e w' => e = .returned (.tuple #[.int .i64 (c : Int), .int .i64 at2]) ∧ Below W'.heap.size W' w' := by
  have hcd : ∀ c ≤ 10, Coded E (evc E c) c := fun c hc => by
    by_cases h0 : c = 0
    · subst h0; exact .inl ⟨rfl, rfl⟩
    · exact .inr ⟨c - 1, by omega, by omega, if_neg h0⟩
  rcases h with ⟨rfl, rfl⟩ | ⟨h0, rfl, rfl⟩ | ⟨h0, f, rfl, hbk⟩
  · exact ⟨-1, .inl rfl, code_any E B W' hE hh _ 0 (.inl ⟨rfl, rfl⟩)⟩
  · exact ⟨-1, .inr rfl, code_any E B W' hE hh _ c (hcd c hc)⟩
  · refine ⟨at_, .inr rfl, ?_⟩
    have hb' := hbk.below hb hbk.lt
    have := code_fault E B W' hE hh (c - 1) (by omega) f at_ (hb'.cell (i := 0) rfl) (by rw [hb'.cell (i := 1) rfl]; unfold evc; rw [if_neg h0])
    rw [show ((c - 1 : Nat) : Int) + 1 = (c : Int) by omega] at this
    exact this
def ApP (E : Nat → Addr) (t : Nd) (l : List (Ch Unit)) (w : World) (e : Ending) (w' : World) : Prop :=
  ∃ (ky dy : ByteArray) (ey : Bool) (ya : Option Addr) (yc : Nat) (ksy : List (ByteArray × Lt)) (v : Value) (c : Nat) (at_ : Int), e = .returned (.tuple #[.agg #[.string ky, .string dy, .bool ey, .slice ya ksy.length yc], v]) ∧ Below w.heap.size w w' ∧ c ≤ 10 ∧
    Hid ((Tr.mk ky dy ey (.slice ya ksy.length yc) ksy : Lt).Ok w') ∧ Hid (FaV E v c at_ w') ∧ Hid (apOut t l = (c, at_, (Tr.mk ky dy ey (.slice ya ksy.length yc) ksy : Lt).bare))
theorem apOut_err {t : Nd} {l : List (Ch Unit)} (h : treeE t ≠ 0) : apOut t l = (treeE t, -1, NdZ) := by unfold apOut; rw [if_pos h]
theorem apOut_fault {t : Nd} {l : List (Ch Unit)} {c i : Nat} (h : treeE t = 0) (ha : applyL 0 t l = .error (c, i)) : apOut t l = (c, (i : Int), NdZ) := by unfold apOut; rw [if_neg (by simpa using h), ha]
theorem apOut_ok {t y : Nd} {l : List (Ch Unit)} (h : treeE t = 0) (ha : applyL 0 t l = .ok y) : apOut t l = (0, -1, y) := by unfold apOut; rw [if_neg (by simpa using h), ha]
theorem AppP.out {E : Nat → Addr} {t : Nd} {l : List (Ch Unit)} {w w' : World} {e : Ending} (h : AppP E t l w e w') : ApP E t l w e w' := by
  obtain ⟨hb, ⟨c, rfl, h0, h1, rfl⟩ | ⟨ht, c, i, f, ha, h0, h1, rfl, hf⟩ | ⟨ht, y, ha, rfl, hy⟩⟩ := h
  · exact ⟨⟨#[]⟩, ⟨#[]⟩, false, none, 0, [], _, treeE t, -1, rfl, hb, h1, zLt_ok w', .inr (.inl ⟨h0, rfl, rfl⟩), apOut_err h0⟩
  · exact ⟨⟨#[]⟩, ⟨#[]⟩, false, none, 0, [], _, c, (i : Int), rfl, hb, h1, zLt_ok w', .inr (.inr ⟨h0, f, rfl, hf⟩), apOut_fault ht ha⟩
  · obtain ⟨ya, yc, hyv⟩ := hy.shape
    obtain ⟨ky, dy, ey, vy, ksy⟩ := y
    simp only [Tr.v, Tr.kids] at hyv
    subst hyv
    exact ⟨ky, dy, ey, ya, yc, ksy, _, 0, -1, rfl, hb, Nat.zero_le _, hy, .inl ⟨rfl, rfl⟩, apOut_ok ht ha⟩
def RpoP (t : Nd) (l : List (Ch Unit)) (w : World) (e : Ending) (w' : World) : Prop :=
  ∃ (ky dy : ByteArray) (ey : Bool) (ya : Option Addr) (yc : Nat) (ksy : List (ByteArray × Lt)) (c : Nat) (at_ : Int), e = .returned (.tuple #[.agg #[.string ky, .string dy, .bool ey, .slice ya ksy.length yc], .agg #[.int .i64 (c : Int), .int .i64 at_]]) ∧ Below w.heap.size w w' ∧ c ≤ 10 ∧
    Hid ((Tr.mk ky dy ey (.slice ya ksy.length yc) ksy : Lt).Ok w') ∧ Hid (apOut t l = (c, at_, (Tr.mk ky dy ey (.slice ya ksy.length yc) ksy : Lt).bare))
theorem RapP.out {t : Nd} {l : List (Ch Unit)} {w w' : World} {e : Ending} (h : RapP t l w e w') : RpoP t l w e w' := by
  obtain ⟨hb, ⟨c, rfl, h0, h1, rfl⟩ | ⟨ht, c, i, ha, h0, h1, rfl⟩ | ⟨ht, y, ha, rfl, hy⟩⟩ := h
  · exact ⟨⟨#[]⟩, ⟨#[]⟩, false, none, 0, [], treeE t, -1, rfl, hb, h1, zLt_ok w', apOut_err h0⟩
  · exact ⟨⟨#[]⟩, ⟨#[]⟩, false, none, 0, [], c, (i : Int), rfl, hb, h1, zLt_ok w', apOut_fault ht ha⟩
  · obtain ⟨ya, yc, hyv⟩ := hy.shape
    obtain ⟨ky, dy, ey, vy, ksy⟩ := y
    simp only [Tr.v, Tr.kids] at hyv
    subst hyv
    exact ⟨ky, dy, ey, ya, yc, ksy, 0, -1, rfl, hb, Nat.zero_le _, hy, apOut_ok ht ha⟩
end Go.Proofs.YtoaedkinlnkkhaaGreatDoor

namespace Go.Proofs.YtoaedkinlnkkhaaGreatDoor
open Go.RowKit
theorem coded_evc4 {E : Nat → Addr} {c : Nat} (h : c ≤ 13) : Coded E (evc E c) c := by
  by_cases h0 : c = 0
  · subst h0; exact .inl ⟨rfl, rfl⟩
  · exact .inr ⟨c - 1, by omega, by omega, if_neg h0⟩
/-- What holds between the calls. -/
structure DtK (E : Nat → Addr) (B : Nat) (w : World) (a b : Lt) (v : Value) (l : List (Ch Value)) (W : World) : Prop where
  below : Below w.heap.size w W
  oa : a.Ok W
  ob : b.Ok W
  ol : ChI l v W
  env : Env codeGs B W E
  hnd : Hnd W
  ml : Ml W
  ba : Blk W w.heap.size (ncells a) 24
  bb : Blk W (w.heap.size + 1) (ncells b) 24
section
variable {E : Nat → Addr} {B : Nat} {w W W' : World} {a b : Lt} {v : Value} {l : List (Ch Value)}
theorem DtK.later (h : DtK E B w a b v l W) (hb : Below W.heap.size W W') : DtK E B w a b v l W' :=
  ⟨h.below.trans (hb.mono h.below.size), h.oa.ob hb, h.ob.ob hb, h.ol.ob hb, h.env.ob hb, h.hnd.below hb (Nat.le_refl _), h.ml.ob hb, h.ba.below hb h.ba.lt, h.bb.below hb h.bb.lt⟩
theorem DtK.drew (h : DtK E B w a b v l W) : DtK E B w a b v l W.drew := h.later ((Below.refl _ _).drew)
theorem DtK.alloc (h : DtK E B w a b v l W) (o : Obj) : DtK E B w a b v l (W.alloc o) := h.later ((Below.refl _ _).alloc (Nat.le_refl _) o)
theorem DtK.c {ka da kb db : ByteArray} {ea eb : Bool} {va vb : Value} {ksa ksb : List (ByteArray × Lt)} (h : DtK E B w (.mk ka da ea va ksa) (.mk kb db eb vb ksb) v l W) :
    W.cell? ⟨w.heap.size, 0, none⟩ = some (.string ka) ∧ W.cell? ⟨w.heap.size, 1, none⟩ = some (.string da) ∧ W.cell? ⟨w.heap.size, 2, none⟩ = some (.bool ea) ∧ W.cell? ⟨w.heap.size, 3, none⟩ = some va ∧
    W.cell? ⟨w.heap.size + 1, 0, none⟩ = some (.string kb) ∧ W.cell? ⟨w.heap.size + 1, 1, none⟩ = some (.string db) ∧ W.cell? ⟨w.heap.size + 1, 2, none⟩ = some (.bool eb) ∧ W.cell? ⟨w.heap.size + 1, 3, none⟩ = some vb :=
  ⟨h.ba.cell (i := 0) rfl, h.ba.cell (i := 1) rfl, h.ba.cell (i := 2) rfl, h.ba.cell (i := 3) rfl, h.bb.cell (i := 0) rfl, h.bb.cell (i := 1) rfl, h.bb.cell (i := 2) rfl, h.bb.cell (i := 3) rfl⟩
end

set_option maxRecDepth 100000 in
set_option maxHeartbeats 40000000 in
theorem diffTells_true (E : Nat → Addr) (B : Nat) (a b : Lt) (v : Value) (l : List (Ch Value)) (w : World) (ha : a.Ok w) (hb : b.Ok w) (hl : ChI l v w) (hE : Env codeGs B w E) (hh : Hnd w) (hM : Ml w) :
    Calls Tryz.prog 3 #[nval a, nval b, v] w fun e w' => e = .returned (.bool true) ∧ Below w.heap.size w w' := by
  obtain ⟨aa, ac, hav⟩ := ha.shape
  obtain ⟨ba, bc, hbv⟩ := hb.shape
  obtain ⟨la, lc, rfl, -⟩ := id hl.sl
  have hll := hl.sl.le
  obtain ⟨ka, da, ea, va, ksa⟩ := a
  obtain ⟨kb, db, eb, vb, ksb⟩ := b
  simp only [Tr.v, Tr.kids] at hav hbv
  subst hav hbv
  have hK0 : DtK E B w (Tr.mk ka da ea (.slice aa ksa.length ac) ksa : Lt) (Tr.mk kb db eb (.slice ba ksb.length bc) ksb : Lt) (.slice la l.length lc) l ((w.alloc (.cells #[.string ka, .string da, .bool ea, .slice aa ksa.length ac] 24)).alloc (.cells #[.string kb, .string db, .bool eb, .slice ba ksb.length bc] 24)) := by
    have hB2 := two_below w #[.string ka, .string da, .bool ea, .slice aa ksa.length ac] #[.string kb, .string db, .bool eb, .slice ba ksb.length bc] 24
    have h1 := Blk.new w [.string ka, .string da, .bool ea, .slice aa ksa.length ac] 24
    have h2 := Blk.new (w.alloc (.cells #[.string ka, .string da, .bool ea, .slice aa ksa.length ac] 24)) [.string kb, .string db, .bool eb, .slice ba ksb.length bc] 24
    rw [show (w.alloc (.cells #[.string ka, .string da, .bool ea, .slice aa ksa.length ac] 24)).heap.size = w.heap.size + 1 by simp] at h2
    exact ⟨hB2, ha.ob hB2, hb.ob hB2, hl.ob hB2, hE.ob hB2, hh.below hB2 (Nat.le_refl _), hM.ob hB2, h1.alloc _, h2⟩
  clear ha hb hl hE hh hM
  obtain ⟨ra, hra, hra0, HLA⟩ := large_num4 (Tr.mk ka da ea (.slice aa ksa.length ac) ksa : Lt) 60 (by omega)
  obtain ⟨rb, hrb, hrb0, HLB⟩ := large_num4 (Tr.mk kb db eb (.slice ba ksb.length bc) ksb : Lt) 60 (by omega)
  have HLC := hidd (fun W (h : ChI l (.slice la l.length lc) W) => largeCh_any _ l W h)
  have HOA := hidd (fun W (hs : ra = 0) (h : (Tr.mk ka da ea (.slice aa ksa.length ac) ksa : Lt).Ok W) => own_any 300 (Tr.mk ka da ea (.slice aa ksa.length ac) ksa : Lt) W (by have := (hra0.1 hs).small.many; omega) (Nat.le_refl _) h)
  have HOB := hidd (fun W (hs : rb = 0) (h : (Tr.mk kb db eb (.slice ba ksb.length bc) ksb : Lt).Ok W) => own_any 300 (Tr.mk kb db eb (.slice ba ksb.length bc) ksb : Lt) W (by have := (hrb0.1 hs).small.many; omega) (Nat.le_refl _) h)
  simp only [nval, Tr.kind, Tr.data, Tr.exec, Tr.v, Int.cast_ofNat_Int] at HLA HLB HOA HOB ⊢
  have HK0 := hidd hK0
  clear hK0 hra0 hrb0
  go_enter Tryz.func3, Tryz.ntmps3
  go_wp2_with fail
  refine (differed_true E B _ HK0.out.env.tr).mono ?_
  rintro e w2 ⟨rfl, hb2⟩
  have hK2 := HK0.out.later hb2
  clear HK0 hb2
  go_wp2_with fail
  have hK2d := hK2.drew
  have ew1 : IntKind.i64.wrap (ra + rb) = ra + rb := by rw [IntKind.wrap_i64]; omega
  by_cases hlg : 0 < ra + rb
  · have e0 : decide (0 < ra + rb) = true := decide_eq_true hlg
    obtain ⟨c0, c1, c2, c3, c4, c5, c6, c7⟩ := DtK.c hK2d
    clear HOA HOB hK2 hlg hra hrb HLC
    first
      | (go_region_law (first
          | (go_simp; go_at_call 6; (with_reducible refine (HLA.out _ (DtK.oa (by assumption))).mono ?_); rintro e w' ⟨rfl, hbl⟩; have hq := DtK.later (by assumption) hbl; obtain ⟨d0, d1, d2, d3, d4, d5, d6, d7⟩ := DtK.c hq)
          | (go_simp; go_at_call 6; (with_reducible refine (HLB.out _ (DtK.ob (by assumption))).mono ?_); rintro e w' ⟨rfl, hbl⟩; have hq := DtK.later (by assumption) hbl; obtain ⟨d0, d1, d2, d3, d4, d5, d6, d7⟩ := DtK.c hq)))
      | fail
    all_goals
      go_wp2_with fail
      go_ret
      exact ⟨rfl, DtK.below (by assumption)⟩
  · have hr0 : ra = 0 := by omega
    have hr1 : rb = 0 := by omega
    have e0 : decide (0 < ra + rb) = false := decide_eq_false hlg
    obtain ⟨rl, hrl⟩ : ∃ r, largeC l = r := ⟨_, rfl⟩
    have HRL := hidd hrl
    rw [hrl] at HLC
    clear hrl hlg
    first
      | (go_region_held3 (fun W' => W'.cell? ⟨w.heap.size, 0, none⟩ = some (.string ka) ∧ W'.cell? ⟨w.heap.size, 1, none⟩ = some (.string da) ∧ W'.cell? ⟨w.heap.size, 2, none⟩ = some (.bool ea) ∧ W'.cell? ⟨w.heap.size, 3, none⟩ = some (.slice aa ksa.length ac) ∧ W'.cell? ⟨w.heap.size + 1, 0, none⟩ = some (.string kb) ∧ W'.cell? ⟨w.heap.size + 1, 1, none⟩ = some (.string db) ∧ W'.cell? ⟨w.heap.size + 1, 2, none⟩ = some (.bool eb) ∧ W'.cell? ⟨w.heap.size + 1, 3, none⟩ = some (.slice ba ksb.length bc))
          (first | exact DtK.c (by assumption))
          (first
            | (go_at_call 6; (with_reducible refine (HLA.out _ (DtK.oa (by assumption))).mono ?_); rintro e w' ⟨rfl, hbl⟩; have hq := DtK.later (by assumption) hbl)
            | (go_at_call 6; (with_reducible refine (HLB.out _ (DtK.ob (by assumption))).mono ?_); rintro e w' ⟨rfl, hbl⟩; have hq := DtK.later (by assumption) hbl)
            | (go_at_call 7; (with_reducible refine (HLC.out _ (DtK.ol (by assumption))).mono ?_); rintro e w' ⟨rfl, hbl⟩; have hq := DtK.later (by assumption) hbl)))
      | fail
    have ew0 : IntKind.i64.wrap 0 = 0 := by rw [IntKind.wrap_i64]; omega
    have ew2 : decide ((0 : Int) < 0) = false := rfl
    cases rl
    rotate_left
    · clear HOA HOB HLA HLB HLC
      go_wp2_with fail
      go_ret
      exact ⟨rfl, DtK.below (by assumption)⟩
    · have hlc := largeC_no HRL.out
      have hq3 := hq
      have HLN : Hid (l.length ≤ 1000) := hidd (by omega)
      have HLS : Hid (∀ c ∈ l, c.n.sz ≤ 300) := hidd (fun c hc => by have := (hlc.2 c hc).2.2.small.many; omega)
      have HLP : Hid (∀ c ∈ l, c.path.size ≤ 150) := hidd (fun c hc => (hlc.2 c hc).2.1)
      have HOAf := hidd (fun W h => HOA.out W hr0 h)
      have HOBf := hidd (fun W h => HOB.out W hr1 h)
      have HDF := hidd (fun W (xa : Option Addr) (xc : Nat) (ksx : List (ByteArray × Lt)) (ya : Option Addr) (yc : Nat) (ksy : List (ByteArray × Lt)) (hx : (Tr.mk ka da ea (.slice xa ksx.length xc) ksx : Lt).Ok W) (hy : (Tr.mk kb db eb (.slice ya ksy.length yc) ksy : Lt).Ok W) (h : DtK E B w (Tr.mk ka da ea (.slice aa ksa.length ac) ksa : Lt) (Tr.mk kb db eb (.slice ba ksb.length bc) ksb : Lt) (.slice la l.length lc) l W) => diff_any E B _ _ W hx hy h.env.tr)
      simp only [nval, Tr.kind, Tr.data, Tr.exec, Tr.v] at HDF
      clear HOA HOB HLA HLB HLC hlc hK2 hK2d hbl ew1 e0 hrb hra HRL
      go_upto_region 4 with fail
      clear hq
      have hqd := hq3.drew
      clear hq3
      first
        | (go_region_held3 (fun W' => W'.cell? ⟨w.heap.size, 0, none⟩ = some (.string ka) ∧ W'.cell? ⟨w.heap.size, 1, none⟩ = some (.string da) ∧ W'.cell? ⟨w.heap.size, 2, none⟩ = some (.bool ea) ∧ W'.cell? ⟨w.heap.size, 3, none⟩ = some (.slice aa ksa.length ac) ∧ W'.cell? ⟨w.heap.size + 1, 0, none⟩ = some (.string kb) ∧ W'.cell? ⟨w.heap.size + 1, 1, none⟩ = some (.string db) ∧ W'.cell? ⟨w.heap.size + 1, 2, none⟩ = some (.bool eb) ∧ W'.cell? ⟨w.heap.size + 1, 3, none⟩ = some (.slice ba ksb.length bc))
            (first | exact DtK.c (by assumption))
            (first
              | (go_at_call 9; (with_reducible refine (HOAf.out _ (DtK.oa (by assumption))).mono ?_); rintro e wX ⟨xa, xc, ksx, rfl, hbrx, hxo, -, hbX⟩; have hqX := DtK.later (by assumption) hbX; simp only [Tr.kind, Tr.data, Tr.exec] at hbrx hxo ⊢; (first | have hyo2 := Tr.Ok.ob hyo hbX | skip))
              | (go_at_call 9; (with_reducible refine (HOBf.out _ (DtK.ob (by assumption))).mono ?_); rintro e wY ⟨ya, yc, ksy, rfl, hbry, hyo, -, hbY⟩; have hqY := DtK.later (by assumption) hbY; simp only [Tr.kind, Tr.data, Tr.exec] at hbry hyo ⊢; (first | have hxo2 := Tr.Ok.ob hxo hbY | skip))
              | (go_at_call 8; (with_reducible refine (HDF.out _ xa xc ksx ya yc ksy (by assumption) (by assumption) (by assumption)).mono ?_); intro e w5 hyy; have hyy2 := DiffP.out hyy; rw [hbrx, hbry] at hyy2; obtain ⟨l1, p1, q1, c1, he, hb5, hc1, hl1, hd1⟩ := hyy2; subst he; have hq5 := DtK.later (by assumption) hb5)))
        | fail
      have HQ5 := hidd hq5
      clear hyy hqX hqY hbX hbY hxo hyo hbrx hbry hb5 hq5 hxo2 hqd HDF HOBf
      obtain ⟨c0, c1', c2', c3, d0, d1, d2, d3⟩ := DtK.c HQ5.out
      have HRD := hidd (rdiffOf_any _ _ w5 HQ5.out.oa HQ5.out.ob)
      simp only [nval, Tr.kind, Tr.data, Tr.exec, Tr.v] at HRD
      go_wp2_with fail
      refine HRD.out.mono ?_
      intro e w6 hyy
      have hyy2 := RdfP.out hyy
      obtain ⟨l2, p2, q2, c2, he, hb6, hc2, hl2, hd2⟩ := hyy2
      subst he
      unfold numV
      have hpr := hd1.out.symm.trans hd2.out
      simp only [Prod.mk.injEq] at hpr
      obtain ⟨rfl, hlm⟩ := hpr
      have HQ6 := hidd (HQ5.out.later hb6)
      have HL1 := hidd (hl1.out.ob hb6)
      have HLM := hidd hlm
      have HCD := hidd (coded1 E B w6 HQ6.out.env HQ6.out.hnd (evc E c1) c1 (coded_evc4 (by omega)) (c1 : Int))
      clear hyy hb6 hd1 hd2 hlm hl1 HRD HQ5 c0 c1' c2' c3 d0 d1 d2 d3
      go_wp2_with fail
      refine HCD.out.mono ?_
      rintro e w7 ⟨rfl, hb7⟩
      have HSC := hidd (sameCh_true _ _ l1 l2 w7 (HL1.out.ob hb7) (hl2.out.ob hb7) HLM.out)
      have HQ7 := hidd (HQ6.out.later hb7)
      have hdt : decide ((c1 : Int) = (c1 : Int)) = true := decide_eq_true rfl
      clear hb7 HCD HL1 hl2 HQ6
      go_wp2_with fail
      refine HSC.out.mono ?_
      rintro e w8 ⟨rfl, hb8⟩
      have HQ8 := hidd (HQ7.out.later hb8)
      clear hb8 HSC HQ7 hdt
      obtain ⟨c0, c1', c2', c3, -, -, -, -⟩ := DtK.c HQ8.out
      go_wp2_with fail
      refine (HOAf.out _ HQ8.out.oa).mono ?_
      rintro e w9 ⟨xa, xc, ksx, rfl, hbrx, hxo, -, hb9⟩
      simp only [Tr.kind, Tr.data, Tr.exec] at hbrx hxo ⊢
      have HQ9 := hidd (HQ8.out.later hb9)
      have HXO := hidd hxo
      have HBX := hidd hbrx
      clear hb9 hxo hbrx HOAf HQ8 c0 c1' c2' c3
      go_wp2_with fail
      refine (ownCh_any _ l w9 HQ9.out.ol HLN.out HLS.out).mono ?_
      rintro e wA ⟨lo, vo, rfl, hlo, hmo, hbA⟩
      have HQA := hidd (HQ9.out.later hbA)
      have HAP := hidd (apply_any E B (Tr.mk ka da ea (.slice xa ksx.length xc) ksx : Lt) vo lo wA (HXO.out.ob hbA) hlo HQA.out.env HQA.out.ml (fun c hc => by
        have h1 : c.bare ∈ l.map Ch.bare := by rw [← hmo]; exact List.mem_map_of_mem hc
        obtain ⟨d, hd, he⟩ := List.mem_map.1 h1
        have h2 := HLP.out d hd
        have h3 : d.path = c.path := congrArg (Ch.path (α := Unit)) he
        rw [← h3]; omega))
      rw [HBX.out, hmo] at HAP
      simp only [nval, Tr.kind, Tr.data, Tr.exec, Tr.v] at HAP
      clear hbA hlo hmo HXO HBX HQ9
      go_wp2_with fail
      refine HAP.out.mono ?_
      intro e wB hyy
      have hyy2 := AppP.out hyy
      obtain ⟨k1, d1, e1, y1, n1, ks1, v1, c3, at3, he, hbB, hc3, ho3, hf3, hd3⟩ := hyy2
      subst he
      have HQB := hidd (HQA.out.later hbB)
      clear hyy hbB HAP HQA
      have hbC : Below wB.heap.size wB (wB.alloc (.cells #[.string k1, .string d1, .bool e1, .slice y1 ks1.length n1] 24)) := (Below.refl _ _).alloc (Nat.le_refl _) _
      have hxB := Blk.new wB [.string k1, .string d1, .bool e1, .slice y1 ks1.length n1] 24
      go_upto_region 9 with fail
      generalize wB.alloc (.cells #[.string k1, .string d1, .bool e1, .slice y1 ks1.length n1] 24) = wC at *
      have HQC := hidd (HQB.out.later hbC)
      have HXB := hidd hxB
      have HBC := hidd hbC
      obtain ⟨c0, c1', c2', c3', -, -, -, -⟩ := DtK.c HQC.out
      have HRA := hidd (rapply_any _ _ l wC HQC.out.oa HQC.out.ol (fun c hc => by have := HLP.out c hc; omega))
      simp only [nval, Tr.kind, Tr.data, Tr.exec, Tr.v] at HRA
      clear hxB hbC HQB
      go_wp2_with fail
      refine HRA.out.mono ?_
      intro e wD hyy
      have hyy2 := RapP.out hyy
      obtain ⟨k2, d2, e2, y2, n2, ks2, c4, at4, he, hbD, hc4, ho4, hd4⟩ := hyy2
      subst he
      have hpr := hd3.out.symm.trans hd4.out
      simp only [Prod.mk.injEq] at hpr
      obtain ⟨rfl, rfl, hye⟩ := hpr
      have HYE := hidd hye
      have HQD := hidd (HQC.out.later hbD)
      have HXD := hidd (HXB.out.below hbD HXB.out.lt)
      have HBD := hidd (HBC.out.trans (hbD.mono HBC.out.size))
      clear hyy hbD hd3 hd4 hye HRA HQC HXB HBC c0 c1' c2' c3'
      have hbE : Below wD.heap.size wD ((wD.alloc (.cells #[.string k2, .string d2, .bool e2, .slice y2 ks2.length n2] 24)).alloc (.cells #[.int .i64 (c3 : Int), .int .i64 at3] 42)) := ((Below.refl _ _).alloc (Nat.le_refl _) _).alloc (by simp) _
      have hyD := (Blk.new wD [.string k2, .string d2, .bool e2, .slice y2 ks2.length n2] 24).alloc (.cells #[.int .i64 (c3 : Int), .int .i64 at3] 42)
      have hfD := Blk.new (wD.alloc (.cells #[.string k2, .string d2, .bool e2, .slice y2 ks2.length n2] 24)) [.int .i64 (c3 : Int), .int .i64 at3] 42
      rw [show (wD.alloc (.cells #[.string k2, .string d2, .bool e2, .slice y2 ks2.length n2] 24)).heap.size = wD.heap.size + 1 by simp] at hfD
      go_upto_region 10 with fail
      generalize ((wD.alloc (.cells #[.string k2, .string d2, .bool e2, .slice y2 ks2.length n2] 24)).alloc (.cells #[.int .i64 (c3 : Int), .int .i64 at3] 42)) = wE at *
      have HQE := hidd (HQD.out.later hbE)
      have HXE := hidd (HXD.out.below hbE HXD.out.lt)
      have HYD := hidd hyD
      have HBE := hidd (HBD.out.trans (hbE.mono HBD.out.size))
      have HO3 := hidd (ho3.out.ob HBE.out)
      have HO4 := hidd (ho4.out.ob hbE)
      have g0 := hfD.cell (i := 0) rfl
      have g1 := hfD.cell (i := 1) rfl
      have hF := (Below.refl wE.heap.size wE).alloc (Nat.le_refl _) (.cells #[.int .i64 (c3 : Int), .int .i64 at3] 42)
      have hqF := HQE.out.later hF
      obtain ⟨at2, hat, hcode⟩ := hf3.out.code hc3 (HBE.out.trans (hF.mono HBE.out.size)) hqF.env hqF.hnd
      have HFA := hidd (faulted_true v1 c3 at3 at2 wE hcode hat)
      clear hbE hyD hfD hF hqF hcode hf3 ho3 ho4 HQD HXD HBD
      go_wp2_with fail
      refine HFA.out.mono ?_
      rintro e wF ⟨rfl, hbF⟩
      have hxF := HXE.out.below hbF HXE.out.lt
      have hyF := HYD.out.below hbF HYD.out.lt
      have x0 := hxF.cell (i := 0) rfl
      have x1 := hxF.cell (i := 1) rfl
      have x2 := hxF.cell (i := 2) rfl
      have x3 := hxF.cell (i := 3) rfl
      have z0 := hyF.cell (i := 0) rfl
      have z1 := hyF.cell (i := 1) rfl
      have z2 := hyF.cell (i := 2) rfl
      have z3 := hyF.cell (i := 3) rfl
      have HSM := hidd (sameTree_any _ (Tr.mk k1 d1 e1 (.slice y1 ks1.length n1) ks1 : Lt) (Tr.mk k2 d2 e2 (.slice y2 ks2.length n2) ks2 : Lt) wF true (Nat.le_refl _) (HO3.out.ob hbF) (HO4.out.ob hbF) ⟨fun _ => HYE.out, fun _ => rfl⟩)
      simp only [nval, Tr.kind, Tr.data, Tr.exec, Tr.v] at HSM
      have HBF := hidd (HQE.out.later hbF).below
      clear hbF hxF hyF HFA HO3 HO4 HQE HXE HYD g0 g1
      go_wp2_with fail
      refine HSM.out.mono ?_
      rintro e wG ⟨rfl, hbG⟩
      have HBG := hidd (HBF.out.trans (hbG.mono HBF.out.size))
      clear hbG x0 x1 x2 x3 z0 z1 z2 z3
      go_wp2_with fail
      go_ret
      exact ⟨rfl, HBG.out⟩
end Go.Proofs.YtoaedkinlnkkhaaGreatDoor
