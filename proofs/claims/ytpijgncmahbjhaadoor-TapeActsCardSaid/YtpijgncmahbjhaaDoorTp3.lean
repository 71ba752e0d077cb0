/- The contracts of the tape's disk: new, its bytes, writing, power. Condition: the receiver is a disk that NewDisk gave; sizes fit. -/
import Derived.Test.YtpijgncmahbjhaaDoorTp2
import Derived.Deep.RegionHeld3
import Derived.StillTailTactics
import Derived.BigRegion
namespace Go.Proofs.YtpijgncmahbjhaaDoor
open Go.RowKit

/-- A tape's disk: its struct lies in block p, its bytes at v. -/
structure TdAt (w : World) (p : Nat) (v : Value) (bs : ByteArray) (off : Bool) (cut : Int) : Prop where
  head : Blk w p [v, .bool off, .int .i64 cut] 52
  row : Oz (fun g => g ≠ p) w 5 1 v bs.size (byteCells bs)
def tdS (p : Nat) (v : Value) (b : Nat) : Prop := b = p ∨ v.ownBlock = some b

section
variable {w w' : World} {p : Nat} {v : Value} {bs : ByteArray} {off : Bool} {cut : Int}
theorem TdAt.fr {S : Nat → Prop} (h : TdAt w p v bs off cut) (hf : Fr S w w') (hS : ∀ b, tdS p v b → ¬ S b) : TdAt w' p v bs off cut :=
  ⟨h.head.fr hf (hS p (.inl rfl)), h.row.fr hf (fun k hk => hS k (.inr hk))⟩
theorem TdAt.lt (h : TdAt w p v bs off cut) : ∀ b, tdS p v b → b < w.heap.size := by
  rintro b (rfl | hb)
  · exact h.head.lt
  · exact (h.row.blk b hb).2
theorem TdAt.ob {B : Nat} (h : TdAt w p v bs off cut) (hf : Below B w w') (hB : w.heap.size ≤ B) : TdAt w' p v bs off cut :=
  h.fr (S := fun b => B ≤ b) (Fr.of_below hf (fun _ _ x => x)) (fun b hb => by have := h.lt b hb; omega)
theorem TdAt.c0 (h : TdAt w p v bs off cut) : w.cell? ⟨p, 0, none⟩ = some v := h.head.cell rfl
theorem TdAt.c1 (h : TdAt w p v bs off cut) : w.cell? ⟨p, 1, none⟩ = some (.bool off) := h.head.cell rfl
theorem TdAt.c2 (h : TdAt w p v bs off cut) : w.cell? ⟨p, 2, none⟩ = some (.int .i64 cut) := h.head.cell rfl
end

theorem infoU : (Tryd.prog.info? 5).map (fun i => (i.zero, i.size, i.bytes)) = some (some (.int .u8 0), 1, 1) := by kernel_rfl
theorem byteCells_app (a b : ByteArray) : byteCells (a ++ b) = byteCells a ++ byteCells b := by simp [byteCells]

def NdPost (b : ByteArray) (w : World) (e : Ending) (w' : World) : Prop :=
  ∃ p v, e = .returned (.tuple #[.pointer (some ⟨p, 0, none⟩), .nilIface]) ∧ TdAt w' p v b false (-1) ∧ (∀ g, tdS p v g → w.heap.size ≤ g) ∧ Below w.heap.size w w'

set_option maxRecDepth 100000 in
theorem newdisk_ok (b : ByteArray) (w : World) (hs : b.size ≤ 1048576) :
    Calls Tryd.prog 7 #[.string b] w (NdPost b w) := by
  have kc := Lib.run_convert_string_bytes (P := Tryd.prog) w 9 50 5 b Tryd.underlying9 Tryd.underlying50 Tryd.underlying5
  have hz := Oz.conv w 5 b (by unfold maxLen; omega)
  have hb := Lib.bytesWorld_below w 5 b
  have hsz := Lib.bytesWorld_size w 5 b
  have z1 : decide ((1048576 : Int) < (b.size : Int)) = false := by simp; omega
  have z2 : decide (1048576 < b.size) = false := by simp; omega
  generalize Lib.bytesWorld w 5 b = W at *
  generalize grownCap w b.size 0 5 = cap at *
  have HZ := hidd hsz
  clear hsz
  go_enter Tryd.func7, Tryd.ntmps7
  go_wp2_with fail
  go_ret2
  refine ⟨W.heap.size, .slice (some ⟨w.heap.size, 0, none⟩) b.size cap, rfl, ⟨Blk.new W [_, _, _] _, (hz.alloc _).mono (fun g hg => by have := HZ.out; omega)⟩, ?_, hb.alloc (by have := HZ.out; omega) _⟩
  rintro g (rfl | hg)
  · have := HZ.out; omega
  · simp [Value.ownBlock] at hg; omega

theorem conv_back {F : Nat → Prop} {w : World} {a : Option Addr} {cap : Nat} {bs : ByteArray} (h : Oz F w 5 1 (.slice a bs.size cap) bs.size (byteCells bs)) : (convert 50 9 (.slice a bs.size cap)).run Tryd.prog w = .ok (.string bs) w := by
  have e2 : (⟨bs.data.toList.toArray⟩ : ByteArray) = bs := ba_ext (by simp)
  rcases h.cells with hx | ⟨g, o, rfl, -, -, hc⟩
  · have hl : bs.size = 0 := by rw [← byteCells_length, hx]; rfl
    have he : bs = ⟨#[]⟩ := ba_ext (List.eq_nil_of_length_eq_zero (by rw [size_toList]; exact hl))
    subst he
    have := run_convert_bytes_string (P := Tryd.prog) w 50 9 5 a 0 cap Tryd.underlying50 Tryd.underlying5 Tryd.underlying9
    rw [hl, this]
    cases a <;> rfl
  · have := run_convert_bytes_back (P := Tryd.prog) w 50 9 5 ⟨g, o, none⟩ cap bs.data.toList Tryd.underlying50 Tryd.underlying5 Tryd.underlying9 (fun j hj => by
      have hj' : j < (byteCells bs).length := by rw [byteCells_length, ← size_toList]; exact hj
      have ea : (⟨g, o, none⟩ : Addr).add j = ⟨g, o + j, none⟩ := by unfold Addr.add; split <;> simp_all
      rw [ea, hc j hj']
      simp [byteCells])
    rw [size_toList, e2] at this
    exact this

/-- Its bytes. -/
theorem bytes_any (p : Nat) (v : Value) (bs : ByteArray) (off : Bool) (cut : Int) (w : World) (h : TdAt w p v bs off cut) :
    Calls Tryd.prog 10 #[.pointer (some ⟨p, 0, none⟩)] w fun e w' => e = .returned (.string bs) ∧ w = w' := by
  have h0 := h.c0
  obtain ⟨a, cap, rfl⟩ := h.row.shape
  have kb := conv_back h.row
  clear h
  go_enter Tryd.func10, Tryd.ntmps10
  go_wp2_with fail
  go_ret
  exact ⟨rfl, rfl⟩

theorem power_any (p : Nat) (v : Value) (bs : ByteArray) (off : Bool) (cut : Int) (w : World) (h : TdAt w p v bs off cut) :
    Calls Tryd.prog 14 #[.pointer (some ⟨p, 0, none⟩)] w fun e w' => e = .returned (.bool (!off)) ∧ w = w' := by
  have h1 := h.c1
  clear h
  go_enter Tryd.func14, Tryd.ntmps14
  go_wp2_with fail
  go_ret
  exact ⟨rfl, rfl⟩

theorem on_any (p : Nat) (v : Value) (bs : ByteArray) (off : Bool) (cut : Int) (w : World) (h : TdAt w p v bs off cut) :
    Calls Tryd.prog 18 #[.pointer (some ⟨p, 0, none⟩)] w fun e w' => (∃ u, e = .returned u) ∧ TdAt w' p v bs false (-1) ∧ Fr (fun b => b = p) w w' := by
  have h1 := h.c1
  have h2 := h.c2
  have f1 := h.head.frozen 1
  have f2 := h.head.frozen 2
  go_enter Tryd.func18, Tryd.ntmps18
  go_wp2_with fail
  go_end0
  exact ⟨⟨_, rfl⟩, ⟨(h.head.set 1 (.bool false)).set 2 (.int .i64 (-1)), (h.row.set (a := ⟨p, 1, none⟩) (fun e => e rfl) _).set (a := ⟨p, 2, none⟩) (fun e => e rfl) _⟩, ((Fr.refl (fun b => b = p) w).setCell (p := ⟨p, 1, none⟩) (.inl rfl) _).setCell (p := ⟨p, 2, none⟩) (.inl rfl) _⟩

theorem Oz.self {F : Nat → Prop} {w : World} {e : TypeId} {size : Nat} {v : Value} {n : Nat} {xs : List Value} (h : Oz F w e size v n xs) (B : Nat) : Oz (fun g => F g ∧ (v.ownBlock = some g ∨ B ≤ g)) w e size v n xs := by
  refine ⟨h.1, ?_⟩
  rcases h.2 with hx | ⟨g, off, cap, cur, z, rfl, hb, rest⟩
  · exact .inl hx
  · exact .inr ⟨g, off, cap, cur, z, rfl, ⟨hb, .inl rfl⟩, rest⟩

/-- What a write leaves. -/
def WtPost (ev : Value) (p : Nat) (v : Value) (bs : ByteArray) (off : Bool) (cut : Int) (w : World) (e : Ending) (w' : World) : Prop :=
  e = .returned ev ∧ ∃ v', TdAt w' p v' bs off cut ∧ (∀ b, v'.ownBlock = some b → v.ownBlock = some b ∨ w.heap.size ≤ b) ∧ Fr (tdS p v) w w'

set_option maxRecDepth 100000 in
set_option maxHeartbeats 4000000 in
theorem write_free (p : Nat) (v : Value) (bs : ByteArray) (cut : Int) (s : ByteArray) (w : World) (h : TdAt w p v bs false cut) (hc : cut < 0) (hs : s.size ≤ 4000000) (hb : bs.size ≤ 4000000) :
    Calls Tryd.prog 22 #[.pointer (some ⟨p, 0, none⟩), .string s] w (WtPost .nilIface p v (bs ++ s) false cut w) := by
  obtain ⟨i0, hi, hz0, hz1, hz2⟩ := info_parts infoU
  have h0 := h.c0
  have h1 := h.c1
  have h2 := h.c2
  obtain ⟨a, cap, rfl⟩ := h.row.shape
  have z1 : decide (0 ≤ cut) = false := by simp; omega
  have how := h.row.self w.heap.size
  have hbl := h.row.blk
  have hs1 := Src.ofString (P := Tryd.prog) (w := w) (tx := 9) Tryd.underlying9 s
  have hp := h.head.lt
  go_enter Tryd.func22, Tryd.ntmps22
  go_wp2_with (at_builtin; refine wpList_append_oz _ rfl _ _ 50 9 rfl _ ?cF 5 i0 _ 1 1 Tryd.underlying50 hi hz0 hz1 hz2 rfl (by decide) _ _ _ rfl how _ _ _ rfl hs1 ?c3 ?c4 ?_)
  case cF => intro g hg; exact ⟨by omega, .inr (by omega)⟩
  case c3 => unfold maxLen; omega
  case c4 => omega
  intro v' w1 hown' hgrow
  have hh1 : Blk w1 p [.slice a bs.size cap, .bool false, .int .i64 cut] 52 := h.head.grown hgrow (fun e => (hbl p e.symm).1 rfl)
  have hc1 := hh1.cell (i := 0) (v := .slice a bs.size cap) rfl
  have hf1 := hh1.frozen 0
  obtain ⟨a', cap', rfl⟩ := hown'.shape
  have hset := hh1.set 0 (.slice a' (bs.size + s.size) cap')
  have hown2 := hown'.set (a := ⟨p, 0, none⟩) (fun e => e.1 rfl) (.slice a' (bs.size + s.size) cap')
  have hfr : Fr (tdS p (.slice a bs.size cap)) w w1 := (Fr.refl _ w).grown hgrow (fun k' hk' => .inl (.inr hk'))
  have hfr2 := hfr.setCell (p := ⟨p, 0, none⟩) (.inl (.inl rfl)) (.slice a' (bs.size + s.size) cap')
  have hb2 := hown'.blk
  clear h how hs1 hown' hgrow h0 h1 h2 hfr hh1
  go_wp2_with fail
  go_ret
  refine ⟨rfl, _, ⟨hset, ?_⟩, fun b hb => (hb2 b hb).1.2, hfr2⟩
  have := hown2.mono (F' := fun g => g ≠ p) (fun g hg => hg.1)
  rw [byteCells_app]
  simpa using this

set_option maxRecDepth 100000 in
set_option maxHeartbeats 4000000 in
theorem write_room (p : Nat) (v : Value) (bs : ByteArray) (cut : Int) (s : ByteArray) (w : World) (h : TdAt w p v bs false cut) (hc : (s.size : Int) ≤ cut) (hcu : cut ≤ 9223372036854775807) (hs : s.size ≤ 4000000) (hb : bs.size ≤ 4000000) :
    Calls Tryd.prog 22 #[.pointer (some ⟨p, 0, none⟩), .string s] w (WtPost .nilIface p v (bs ++ s) false (cut - s.size) w) := by
  obtain ⟨i0, hi, hz0, hz1, hz2⟩ := info_parts infoU
  have h0 := h.c0
  have h1 := h.c1
  have h2 := h.c2
  obtain ⟨a, cap, rfl⟩ := h.row.shape
  have z0 : (0 : Int) ≤ cut := by omega
  have z1 : decide (0 ≤ cut) = true := by simp; omega
  have z2 : decide (cut < (s.size : Int)) = false := by simp; omega
  have f2 := h.head.frozen 2
  have hst := h.head.set 2 (.int .i64 (cut - (s.size : Int)))
  have how := (h.row.self w.heap.size).set (a := ⟨p, 2, none⟩) (fun e => e.1 rfl) (.int .i64 (cut - (s.size : Int)))
  have hfr0 : Fr (tdS p (.slice a bs.size cap)) w (w.setCell ⟨p, 2, none⟩ (.int .i64 (cut - (s.size : Int)))) := (Fr.refl _ w).setCell (p := ⟨p, 2, none⟩) (.inl (.inl rfl)) _
  have hbl := h.row.blk
  have hs1 := Src.ofString (P := Tryd.prog) (w := w.setCell ⟨p, 2, none⟩ (.int .i64 (cut - (s.size : Int)))) (tx := 9) Tryd.underlying9 s
  have hsz0 : (w.setCell ⟨p, 2, none⟩ (.int .i64 (cut - (s.size : Int)))).heap.size = w.heap.size := by simp [World.setCell]
  have hp := h.head.lt
  clear h
  go_enter Tryd.func22, Tryd.ntmps22
  go_wp2_with (at_builtin; refine wpList_append_oz _ rfl _ _ 50 9 rfl _ ?cF 5 i0 _ 1 1 Tryd.underlying50 hi hz0 hz1 hz2 rfl (by decide) _ _ _ rfl how _ _ _ rfl hs1 ?c3 ?c4 ?_)
  case cF => intro g hg; rw [hsz0] at hg; exact ⟨by omega, .inr (by omega)⟩
  case c3 => unfold maxLen; omega
  case c4 => omega
  intro v' w1 hown' hgrow
  have hh1 : Blk w1 p [.slice a bs.size cap, .bool false, .int .i64 (cut - (s.size : Int))] 52 := hst.grown hgrow (fun e => (hbl p e.symm).1 rfl)
  have hc1 := hh1.cell (i := 0) (v := .slice a bs.size cap) rfl
  have hf1 := hh1.frozen 0
  obtain ⟨a', cap', rfl⟩ := hown'.shape
  have hset := hh1.set 0 (.slice a' (bs.size + s.size) cap')
  have hown2 := hown'.set (a := ⟨p, 0, none⟩) (fun e => e.1 rfl) (.slice a' (bs.size + s.size) cap')
  have hfr : Fr (tdS p (.slice a bs.size cap)) w w1 := hfr0.grown hgrow (fun k' hk' => .inl (.inr hk'))
  have hfr2 := hfr.setCell (p := ⟨p, 0, none⟩) (.inl (.inl rfl)) (.slice a' (bs.size + s.size) cap')
  have hb2 := hown'.blk
  clear how hs1 hown' hgrow h0 h1 h2 hfr hh1 hfr0 hst hsz0
  go_wp2_with fail
  go_ret
  refine ⟨rfl, _, ⟨hset, ?_⟩, fun b hb => (hb2 b hb).1.2, hfr2⟩
  have := hown2.mono (F' := fun g => g ≠ p) (fun g hg => hg.1)
  rw [byteCells_app]
  simpa using this

theorem write_off (E : Nat → Addr) (p : Nat) (v : Value) (bs : ByteArray) (cut : Int) (s : ByteArray) (w : World) (h : TdAt w p v bs true cut) (B : Nat) (G : List Nat) (hE : Env G B w E) (hg : 3 ∈ G) :
    Calls Tryd.prog 22 #[.pointer (some ⟨p, 0, none⟩), .string s] w fun e w' => e = .returned (erv E 3) ∧ w = w' := by
  have h1 := h.c1
  have hc := hE.cell _ hg
  unfold erv at *
  clear h hE
  go_enter Tryd.func22, Tryd.ntmps22
  go_wp2_with fail
  go_ret
  exact ⟨rfl, rfl⟩

set_option maxRecDepth 100000 in
set_option maxHeartbeats 4000000 in
theorem write_torn (E : Nat → Addr) (p : Nat) (v : Value) (bs : ByteArray) (cut : Nat) (s : ByteArray) (w : World) (h : TdAt w p v bs false (cut : Int)) (hc : cut < s.size) (hs : s.size ≤ 4000000) (hb : bs.size ≤ 4000000)
    (B : Nat) (G : List Nat) (hE : Env G B w E) (hg : 3 ∈ G) (hB : B ≤ p ∧ ∀ g, v.ownBlock = some g → B ≤ g) :
    Calls Tryd.prog 22 #[.pointer (some ⟨p, 0, none⟩), .string s] w (WtPost (erv E 3) p v (bs ++ s.extract 0 cut) true (cut : Int) w) := by
  obtain ⟨i0, hi, hz0, hz1, hz2⟩ := info_parts infoU
  have h0 : w.drew.cell? ⟨p, 0, none⟩ = some v := h.c0
  have h1 := h.c1
  have h2 := h.c2
  have h2d : w.drew.cell? ⟨p, 2, none⟩ = some (.int .i64 (cut : Int)) := h2
  obtain ⟨a, cap, rfl⟩ := h.row.shape
  have z0 : (0 : Int) ≤ (cut : Int) := by omega
  have z2 : (cut : Int) < (s.size : Int) := by omega
  have z3 : (cut : Int) ≤ (s.size : Int) := by omega
  have hbl := h.row.blk
  obtain ⟨X, hX⟩ : ∃ X, s.extract 0 cut = X := ⟨_, rfl⟩
  have hXs : X.size ≤ 4000000 := by rw [← hX, ByteArray.size_extract]; omega
  rw [hX]
  have how := (h.row.self w.heap.size).drew
  have hs1 := Src.ofString (P := Tryd.prog) (w := w.drew) (tx := 9) Tryd.underlying9 X
  have hp := h.head.lt
  have HB4 : Hid (∀ w4, w.drew.grownBy w4 (Value.slice a bs.size cap).ownBlock → Blk w4 p [.slice a bs.size cap, .bool false, .int .i64 (cut : Int)] 52) :=
    hidd (fun w4 hg => h.head.drew.grown hg (fun e => (hbl p e.symm).1 rfl))
  have HX := hidd hX
  go_enter Tryd.func22, Tryd.ntmps22
  go_wp2_with fail
  go_region_law
    ((refine step_append_oz (by rfl) (.tmp 28) (.tmp 34) 50 9 (by rfl) (fun g => g ≠ p ∧ ((Value.slice a bs.size cap).ownBlock = some g ∨ w.heap.size ≤ g)) (fun g hg => ⟨by simp at hg; omega, .inr (by simp at hg; omega)⟩) 5 i0 _ 1 1 Tryd.underlying50 hi hz0 hz1 hz2 rfl (by decide) _ _ _ (by rfl) how _ _ _ (by rfl) hs1 (by unfold maxLen; omega) (by omega) ?_; intro v' w4 hown' hgrow; obtain ⟨a', cap', hv'⟩ := hown'.shape; subst hv'; have hb4 := HB4.out _ hgrow; have hc4 := hb4.cell (i := 0) (v := .slice a bs.size cap) rfl; have hf4 := hb4.frozen 0))
  all_goals
   have hset := hb4.set 0 (.slice a' (bs.size + X.size) cap')
   have k1 := hset.cell (i := 1) (v := .bool false) rfl
   have g1 := hset.frozen 1
   have hset2 := hset.set 1 (.bool true)
   have hown2 := (hown'.set (a := ⟨p, 0, none⟩) (fun e => e.1 rfl) (.slice a' (bs.size + X.size) cap')).set (a := ⟨p, 1, none⟩) (fun e => e.1 rfl) (.bool true)
   have hfr : Fr (tdS p (.slice a bs.size cap)) w ((w4.setCell ⟨p, 0, none⟩ (.slice a' (bs.size + X.size) cap')).setCell ⟨p, 1, none⟩ (.bool true)) :=
     (((Fr.refl _ w).drew.grown hgrow (fun k' hk' => .inl (.inr hk'))).setCell (p := ⟨p, 0, none⟩) (.inl (.inl rfl)) _).setCell (p := ⟨p, 1, none⟩) (.inl (.inl rfl)) _
   have hEc := (hE.fr hfr (fun i hi => by rcases hi with rfl | hi; exact hB.1; exact hB.2 i hi)).cell _ hg
   have hb2 := hown'.blk
   unfold erv at *
   clear h how hs1 hown' hgrow h0 h1 h2 h2d hb4 hE hB hset hX
   go_wp2_with fail
   go_ret
   refine ⟨rfl, _, ⟨hset2, ?_⟩, fun b hb => (hb2 b hb).1.2, hfr⟩
   have := hown2.mono (F' := fun g => g ≠ p) (fun g hg => hg.1)
   rw [byteCells_app]
   simpa using this
end Go.Proofs.YtpijgncmahbjhaaDoor
