/- The contract of tape.Read. Condition: the library's tables and variables read as listed, the text has at most 4000000 bytes. -/
import Derived.Test.YtpijgncmahbjhaaDoorTp
import Derived.Test.YtpijgncmahbjhaaDoorTxt
namespace Go.Proofs.YtpijgncmahbjhaaDoor
open Go.RowKit

theorem oneR_some (s : List UInt8) : oneR (some s) = .tuple #[.string ⟨s.toArray⟩, .bool true] := rfl
theorem oneR_none : oneR none = .tuple #[.string ⟨#[]⟩, .bool false] := rfl
theorem infoStr : (Tryd.prog.info? 9).map (fun i => (i.zero, i.size, i.bytes)) = some (some (.string ⟨#[]⟩), 1, 16) := by kernel_rfl
def ReadPost (b : ByteArray) (w : World) (e : Ending) (w' : World) : Prop :=
  (∃ (l : List ByteArray) (t : List UInt8) (v : Value), Rd b.data.toList l t ∧ e = .returned (.tuple #[v, .int .i64 (((recs l).length : Nat) : Int)]) ∧ Ow (fun g => w.heap.size ≤ g) w' 9 1 v l.length (tcells l)) ∧ Below w.heap.size w w'

set_option maxRecDepth 100000 in
set_option maxHeartbeats 4000000 in
theorem read_any (b : ByteArray) (w : World) (hs : b.size ≤ 4000000) (hT : TEnv w) :
    Calls Tryd.prog 9 #[.string b] w (ReadPost b w) := by
  obtain ⟨i0, hi, hz0, hz1, hz2⟩ := info_parts infoStr
  go_enter Tryd.func9, Tryd.ntmps9
  go_wp2_with fail
  go_loopw [4, 5] (fun v at_ wr => ∃ (l : List ByteArray) (t : List UInt8), (b.data.toList = recs l ++ t ∧ ∀ s ∈ l, s.size ≤ 20000) ∧ at_ = .int .i64 (((recs l).length : Nat) : Int) ∧ Ow (fun g => w.heap.size ≤ g) wr 9 1 v l.length (tcells l) ∧ Below w.heap.size w wr) (fun _ at_ _ => b.size - (intOf at_).toNat)
  case atStart => exact ⟨[], b.data.toList, ⟨rfl, by simp⟩, rfl, Ow.nil _ _ _ _, Below.refl _ _⟩
  case round =>
    obtain ⟨l, t, ⟨hbl, hall⟩, rfl, hown, hb⟩ := hrel
    have hTr := hT.low hb
    have hlen : (recs l).length + t.length = b.size := by rw [← size_toList, hbl]; simp
    have hle : (recs l).length ≤ b.size := by omega
    have hll : l.length ≤ (recs l).length := by
      clear hbl hall hown hlen hle
      induction l with
      | nil => simp
      | cons s l ih => rw [recs_cons]; have := rec10_len s.data.toList; simp; omega
    obtain ⟨T, hTe⟩ : ∃ T : ByteArray, b.extract (recs l).length b.size = T := ⟨_, rfl⟩
    have hTt : T.data.toList = t := by
      rw [← hTe, Lib.extract_to_end, hbl, List.drop_left]
    have hTs : T.size ≤ 4000000 := by rw [← size_toList, hTt]; omega
    have q1 : (0 : Int) ≤ ((recs l).length : Int) := by omega
    have q2 : ((recs l).length : Int) ≤ (b.size : Int) := by omega
    have HB := hidd hbl
    have HA := hidd hall
    obtain ⟨a, cap, rfl⟩ := hown.shape
    generalize hat : (recs l).length = at_ at *
    have HAT := hidd hat
    have HL := hidd hlen
    clear hbl hall hat hlen
    cases ho : oneL t with
    | none =>
      have HO := hidd ho
      clear ho
      go_wp2_with fail
      refine (one_any T _ hTs hTr).mono ?_
      rintro e w1 ⟨rfl, hb1⟩
      rw [hTt, HO.out, oneR_none]
      have hown1 := hown.ob hb1
      have hB1 := hb.trans (hb1.mono hb.size)
      go_wp2_with fail
      go_ret2
      refine ⟨⟨l, t, _, ⟨HB.out, HA.out, HO.out⟩, ?_, hown1⟩, hB1⟩
      rw [HAT.out]; rfl
    | some s =>
      obtain ⟨hs20, r, hr⟩ := oneL_some t s ho
      have HO := hidd ho
      have HR := hidd hr
      clear ho hr
      go_wp2_with fail
      refine (one_any T _ hTs hTr).mono ?_
      rintro e w1 ⟨rfl, hb1⟩
      rw [hTt, HO.out, oneR_some]
      have hown1 := hown.ob hb1
      have hB1 := hb.trans (hb1.mono hb.size)
      have hT1 := hTr.low hb1
      obtain ⟨S, hS⟩ : ∃ S : ByteArray, (⟨s.toArray⟩ : ByteArray) = S := ⟨_, rfl⟩
      have hSs : s = S.data.toList := by rw [← hS]
      rw [hS]
      have hSz : S.size ≤ 20000 := by rw [← size_toList, ← hSs]; exact hs20
      clear hTr hown hb hb1 hS
      have hs1 := Src.new (P := Tryd.prog) (size := 1) (tx := 22) Tryd.underlying22 w1 w1.heap.size rfl [.string S] 9 rfl (by intro u hu; simp at hu; subst hu; rfl) 1
      have how1 := hown1.alloc (.cells #[.string S] 9)
      have hsz1 := hB1.size
      go_wp2_with (at_builtin; refine wpList_append_ow _ rfl _ _ 22 22 rfl (fun g => w.heap.size ≤ g) ?cF 9 i0 _ 1 16 Tryd.underlying22 hi hz0 hz1 hz2 rfl (by decide) _ _ _ rfl how1 _ _ _ rfl hs1 ?c3 ?c4 ?_)
      case cF => intro g hg; simp at hg; omega
      case c3 => unfold maxLen; omega
      case c4 => omega
      intro v' w2 hown2 hgrow
      have hB2 : Below w.heap.size w w2 := (hB1.alloc hB1.size _).grown hgrow (by simp; omega) (fun k hk => (hown1.blk k hk).1)
      have hT2 : TEnv w2 := hT.low hB2
      obtain ⟨a', cap', rfl⟩ := hown2.shape
      have hrs := recB_size S
      have hmb : at_ + (recB S).size ≤ 4000000 := by
        have h1 := HL.out
        rw [HR.out, List.length_append, hSs, ← hrs] at h1
        omega
      have hm4 : 4 ≤ (recB S).size := by rw [hrs]; exact (rec10_len _).1
      have hmt : at_ + (recB S).size ≤ b.size := by
        have h1 := HL.out
        rw [HR.out, List.length_append, hSs, ← hrs] at h1
        omega
      have HM := hidd hrs
      clear hrs hown1 how1 hs1 hgrow hT1 hB1 hsz1
      go_wp2_with fail
      refine (record_any S _ (by omega) hT2).mono ?_
      rintro e w3 ⟨rfl, hb3⟩
      have hown3 := hown2.ob hb3
      have hB3 := hB2.trans (hb3.mono hB2.size)
      obtain ⟨m, hm⟩ : ∃ m, (recB S).size = m := ⟨_, rfl⟩
      rw [hm] at hmb hm4 hmt HM
      clear hown2 hb3 hB2 hT2
      go_wp2_with fail
      go_roundw
      case rel =>
        refine ⟨l ++ [S], r, ⟨?_, ?_⟩, ?_, by simpa [tcells] using hown3, hB3⟩
        · rw [recs_app, recs_one, List.append_assoc, ← hSs, ← HR.out]; exact HB.out
        · intro s' hs'
          rcases List.mem_append.1 hs' with h | h
          · exact HA.out s' h
          · simp at h; subst h; exact hSz
        · rw [recs_app, recs_one, List.length_append, HAT.out, ← HM.out]; go_num
      case measure => simp [intOf]; omega
end Go.Proofs.YtpijgncmahbjhaaDoor
