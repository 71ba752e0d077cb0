/- The contracts of tape.Append, Cut and Recover. Condition: the disk is one that NewDisk gave; sizes fit; the variables read as listed. -/
import Derived.Test.YtpijgncmahbjhaaDoorTp3
namespace Go.Proofs.YtpijgncmahbjhaaDoor
open Go.RowKit

theorem keep_rec {w W W' : World} {p : Nat} {v : Value} (hp : p < w.heap.size) (h1 : W.cell? ⟨p, 0, none⟩ = some v) (h2 : Below w.heap.size w W) (hb : Below W.heap.size W W') : W'.cell? ⟨p, 0, none⟩ = some v ∧ Below w.heap.size w W' :=
  ⟨by rw [hb.cell (Nat.lt_of_lt_of_le hp h2.size)]; exact h1, h2.trans (hb.mono h2.size)⟩

set_option maxRecDepth 100000 in
set_option maxHeartbeats 4000000 in
theorem append_step (ev : Value) (p : Nat) (v : Value) (bs : ByteArray) (off : Bool) (cut : Int) (s : ByteArray) (w : World) (R : World → World → Prop) (h : TdAt w p v bs off cut) (hT : TEnv w) (hs : s.size ≤ 20000) (hfit : bs.size + (recB s).size ≤ 1048576)
    (hw : ∀ W, TdAt W p v bs off cut → Below w.heap.size w W → Calls Tryd.prog 22 #[.pointer (some ⟨p, 0, none⟩), .string (recB s)] W fun e w' => e = .returned ev ∧ R W w') :
    Calls Tryd.prog 8 #[.pointer (some ⟨p, 0, none⟩), .string s] w fun e w' => e = .returned ev ∧ ∃ W, TdAt W p v bs off cut ∧ Below w.heap.size w W ∧ R W w' := by
  have h0 : w.drew.cell? ⟨p, 0, none⟩ = some v := h.c0
  obtain ⟨a, cap, rfl⟩ := h.row.shape
  have hp := h.head.lt
  have z1 : decide ((20000 : Int) < (s.size : Int)) = false := by simp; omega
  have z1' : decide (20000 < s.size) = false := by simp; omega
  obtain ⟨r, hr⟩ : ∃ r, recB s = r := ⟨_, rfl⟩
  rw [hr] at hfit
  have HR := hidd hr
  have z2 : decide ((1048576 : Int) - (bs.size : Int) < (r.size : Int)) = false := by simp; omega
  have z3 : ¬ ((1048576 : Int) - (bs.size : Int) < (r.size : Int)) := by omega
  have hbd : Below w.heap.size w w.drew := (Below.refl _ _).drew
  have HH := hidd h
  have HW := hidd hw
  have hs9 : s.size ≤ 9999999 := by omega
  clear h hw hr
  have q := i64_in ((1048576 : Int) - (bs.size : Int)) (by omega)
  go_enter Tryd.func8, Tryd.ntmps8
  go_wp2_with fail
  go_region_held3 (fun W => W.cell? ⟨p, 0, none⟩ = some (.slice a bs.size cap) ∧ Below w.heap.size w W)
    (first | exact ⟨h0, hbd⟩ | exact keep_rec hp (by assumption) (by assumption) hb')
    ((go_at_call 21; refine (record_any s _ hs9 (hT.low (by assumption))).mono ?_; rintro e w' ⟨rfl, hb'⟩; rw [HR.out]))
  clear q
  have hB1 := hbd.trans (hb'.mono hbd.size)
  have hT1 := hT.low hB1
  clear hb' h0 hbd
  go_wp2_with fail
  refine (record_any s _ hs9 hT1).mono ?_
  rintro e w2 ⟨rfl, hb2⟩
  have hB2 := hB1.trans (hb2.mono hB1.size)
  have hTd := HH.out.ob hB2 (Nat.le_refl _)
  clear hB1 hT1 hb2
  go_wp2_with fail
  refine (HW.out w2 hTd hB2).mono ?_
  rintro e w3 ⟨rfl, hR⟩
  have HX := hidd hR
  clear hR
  go_wp2_with fail
  go_ret
  exact ⟨rfl, w2, hTd, hB2, HX.out⟩

/-- What an append leaves. -/
def ApPost (ev : Value) (p : Nat) (v : Value) (bs : ByteArray) (off : Bool) (cut : Int) (w : World) (e : Ending) (w' : World) : Prop :=
  e = .returned ev ∧ ∃ v', TdAt w' p v' bs off cut ∧ (∀ b, v'.ownBlock = some b → v.ownBlock = some b ∨ w.heap.size ≤ b) ∧ Fr (tdS p v) w w'
theorem ap_of {p : Nat} {v v' : Value} {bs' : ByteArray} {off' : Bool} {cut' : Int} {w W w' : World} (hb : Below w.heap.size w W)
    (h : TdAt w' p v' bs' off' cut' ∧ (∀ b, v'.ownBlock = some b → v.ownBlock = some b ∨ W.heap.size ≤ b) ∧ Fr (tdS p v) W w') :
    TdAt w' p v' bs' off' cut' ∧ (∀ b, v'.ownBlock = some b → v.ownBlock = some b ∨ w.heap.size ≤ b) ∧ Fr (tdS p v) w w' :=
  ⟨h.1, fun b hb' => (h.2.1 b hb').imp id (fun x => Nat.le_trans hb.size x), (Fr.ob (S := tdS p v) hb).trans h.2.2⟩

theorem append_free (p : Nat) (v : Value) (bs : ByteArray) (cut : Int) (s : ByteArray) (w : World) (h : TdAt w p v bs false cut) (hT : TEnv w) (hc : cut < 0) (hs : s.size ≤ 20000) (hfit : bs.size + (recB s).size ≤ 1048576) :
    Calls Tryd.prog 8 #[.pointer (some ⟨p, 0, none⟩), .string s] w (ApPost .nilIface p v (bs ++ recB s) false cut w) := by
  refine (append_step .nilIface p v bs false cut s w (fun W w' => ∃ v', TdAt w' p v' (bs ++ recB s) false cut ∧ (∀ b, v'.ownBlock = some b → v.ownBlock = some b ∨ W.heap.size ≤ b) ∧ Fr (tdS p v) W w') h hT hs hfit (fun W hW _ => write_free p v bs cut (recB s) W hW hc (by omega) (by omega))).mono ?_
  rintro e w' ⟨rfl, W, -, hb, v', h1⟩
  exact ⟨rfl, v', ap_of hb h1⟩
theorem append_room (p : Nat) (v : Value) (bs : ByteArray) (cut : Int) (s : ByteArray) (w : World) (h : TdAt w p v bs false cut) (hT : TEnv w) (hc : ((recB s).size : Int) ≤ cut) (hcu : cut ≤ 9223372036854775807) (hs : s.size ≤ 20000) (hfit : bs.size + (recB s).size ≤ 1048576) :
    Calls Tryd.prog 8 #[.pointer (some ⟨p, 0, none⟩), .string s] w (ApPost .nilIface p v (bs ++ recB s) false (cut - (recB s).size) w) := by
  refine (append_step .nilIface p v bs false cut s w (fun W w' => ∃ v', TdAt w' p v' (bs ++ recB s) false (cut - (recB s).size) ∧ (∀ b, v'.ownBlock = some b → v.ownBlock = some b ∨ W.heap.size ≤ b) ∧ Fr (tdS p v) W w') h hT hs hfit (fun W hW _ => write_room p v bs cut (recB s) W hW hc hcu (by omega) (by omega))).mono ?_
  rintro e w' ⟨rfl, W, -, hb, v', h1⟩
  exact ⟨rfl, v', ap_of hb h1⟩
theorem append_torn (E : Nat → Addr) (p : Nat) (v : Value) (bs : ByteArray) (cut : Nat) (s : ByteArray) (w : World) (h : TdAt w p v bs false (cut : Int)) (hT : TEnv w) (hc : cut < (recB s).size) (hs : s.size ≤ 20000) (hfit : bs.size + (recB s).size ≤ 1048576)
    (B : Nat) (G : List Nat) (hE : Env G B w E) (hg : 3 ∈ G) (hB : B ≤ p ∧ ∀ g, v.ownBlock = some g → B ≤ g) :
    Calls Tryd.prog 8 #[.pointer (some ⟨p, 0, none⟩), .string s] w (ApPost (erv E 3) p v (bs ++ (recB s).extract 0 cut) true (cut : Int) w) := by
  refine (append_step (erv E 3) p v bs false (cut : Int) s w (fun W w' => ∃ v', TdAt w' p v' (bs ++ (recB s).extract 0 cut) true (cut : Int) ∧ (∀ b, v'.ownBlock = some b → v.ownBlock = some b ∨ W.heap.size ≤ b) ∧ Fr (tdS p v) W w') h hT hs hfit (fun W hW hb => write_torn E p v bs cut (recB s) W hW hc (by omega) (by omega) B G (hE.ob hb) hg hB)).mono ?_
  rintro e w' ⟨rfl, W, -, hb, v', h1⟩
  exact ⟨rfl, v', ap_of hb h1⟩
theorem append_off (E : Nat → Addr) (p : Nat) (v : Value) (bs : ByteArray) (cut : Int) (s : ByteArray) (w : World) (h : TdAt w p v bs true cut) (hT : TEnv w) (hs : s.size ≤ 20000) (hfit : bs.size + (recB s).size ≤ 1048576)
    (B : Nat) (G : List Nat) (hE : Env G B w E) (hg : 3 ∈ G) :
    Calls Tryd.prog 8 #[.pointer (some ⟨p, 0, none⟩), .string s] w fun e w' => e = .returned (erv E 3) ∧ Below w.heap.size w w' := by
  refine (append_step (erv E 3) p v bs true cut s w (fun W w' => W = w') h hT hs hfit (fun W hW hb => write_off E p v bs cut (recB s) W hW B G (hE.ob hb) hg)).mono ?_
  rintro e w' ⟨rfl, W, -, hb, rfl⟩
  exact ⟨rfl, hb⟩

/-- A cut of power later. -/
theorem cut_ok (p : Nat) (v : Value) (bs : ByteArray) (cut : Int) (n : Int) (w : World) (h : TdAt w p v bs false cut) (hn : 0 ≤ n) :
    Calls Tryd.prog 12 #[.pointer (some ⟨p, 0, none⟩), .int .i64 n] w fun e w' => e = .returned .nilIface ∧ TdAt w' p v bs false n ∧ Fr (fun b => b = p) w w' := by
  have h1 := h.c1
  have h2 := h.c2
  have f2 := h.head.frozen 2
  have z : decide (n < 0) = false := by simp; omega
  go_enter Tryd.func12, Tryd.ntmps12
  go_wp2_with fail
  go_ret
  exact ⟨rfl, ⟨h.head.set 2 (.int .i64 n), h.row.set (a := ⟨p, 2, none⟩) (fun e => e rfl) _⟩, (Fr.refl (fun b => b = p) w).setCell (p := ⟨p, 2, none⟩) (.inl rfl) _⟩

/-- What Recover leaves. -/
def RcPost (p : Nat) (v : Value) (bs : ByteArray) (w : World) (e : Ending) (w' : World) : Prop :=
  ∃ (l : List ByteArray) (t : List UInt8) (u v' : Value), Rd bs.data.toList l t ∧ e = .returned (.tuple #[u, .nilIface]) ∧ Ow (fun g => w.heap.size ≤ g) w' 9 1 u l.length (tcells l) ∧
    TdAt w' p v' (bs.extract 0 (recs l).length) false (-1) ∧ v'.ownBlock = v.ownBlock ∧ Fr (fun b => b = p) w w'

theorem bc_take (bs : ByteArray) (n : Nat) : (byteCells bs).take n = byteCells (bs.extract 0 n) := by
  simp only [byteCells, ← List.map_take]
  rw [Lib.extract_from_zero]
theorem ob_of_fr {w0 w w1 : World} {p : Nat} (hB : Below w0.heap.size w0 w) (hp : w0.heap.size ≤ p) (hf : Fr (fun b => b = p) w w1) : Below w0.heap.size w0 w1 :=
  hB.trans (hf.below hB.size (fun i hi => by omega))

set_option maxRecDepth 100000 in
set_option maxHeartbeats 4000000 in
theorem recover_any (p : Nat) (v : Value) (bs : ByteArray) (off : Bool) (cut : Int) (w0 w : World) (h : TdAt w p v bs off cut) (hT : TEnv w0) (hB : Below w0.heap.size w0 w) (hp : w0.heap.size ≤ p) (hb : bs.size ≤ 4000000) :
    Calls Tryd.prog 13 #[.pointer (some ⟨p, 0, none⟩)] w (RcPost p v bs w) := by
  go_enter Tryd.func13, Tryd.ntmps13
  go_wp2_with fail
  have hpw := h.head.lt
  refine (on_any p v bs off cut _ h).mono ?_
  rintro e w1 ⟨⟨u, rfl⟩, h1, hf1⟩
  have hB1 := ob_of_fr hB hp hf1
  have hT1 := hT.low hB1
  have hc0 := h1.c0
  have hsz1 := hf1.size
  obtain ⟨a, cap, rfl⟩ := h1.row.shape
  have kb := conv_back h1.row
  clear h hB
  go_wp2_with fail
  refine (read_any bs _ hb hT1).mono ?_
  rintro e w2 ⟨⟨l, t, u2, hrd, rfl, hown⟩, hb2⟩
  have h2 := h1.ob hb2 (Nat.le_refl _)
  have hlen : (recs l).length ≤ bs.size := by rw [← size_toList, hrd.1]; simp
  have hcap : bs.size ≤ cap ∧ cap ≤ maxLen := by
    obtain ⟨a', cap', he, _, k1, k2, _⟩ := h2.row.sl
    simp only [Value.slice.injEq] at he
    obtain ⟨_, _, rfl⟩ := he
    exact ⟨k1, k2⟩
  obtain ⟨hcap, hcm⟩ := hcap
  unfold maxLen at hcm
  have hc2 := h2.c0
  have hz2 := h2.head.frozen 0
  have hcut := h2.row.cut hlen
  have HRD := hidd hrd
  have hf2 : Fr (fun b => b = p) w w2 := hf1.trans (Fr.ob hb2)
  clear hrd kb hc0
  generalize hn : (recs l).length = n at *
  have HN := hidd hn
  clear hn
  have q1 : (0 : Int) ≤ (n : Int) := by omega
  have q2 : (n : Int) ≤ (bs.size : Int) := by omega
  have q3 : (n : Int) ≤ (cap : Int) := by omega
  go_wp2_with fail
  go_ret2
  have hpl := h1.head.lt
  have hes : (bs.extract 0 n).size = n := by rw [ByteArray.size_extract]; omega
  refine ⟨l, t, u2, .slice a n n, HRD.out, rfl, (hown.set (a := ⟨p, 0, none⟩) ?_ _).mono (fun g hg => Nat.le_trans hsz1 hg), ?_, ?_, hf2.setCell (p := ⟨p, 0, none⟩) (.inl rfl) _⟩
  · exact Nat.not_le.2 hpl
  · rw [HN.out]
    refine ⟨h2.head.set 0 _, ?_⟩
    rw [hes, ← bc_take]
    have := hcut.set (a := ⟨p, 0, none⟩) (fun e => e rfl) (.slice a n n)
    rwa [Nat.mul_one] at this
  · cases a <;> rfl
end Go.Proofs.YtpijgncmahbjhaaDoor
