/- A disk and its model side by side: what each act leaves. No condition but those of the acts. -/
import Derived.Test.YtgckmlafpmnekaaDoorDr5
import Derived.Test.YtgckmlafpmnekaaDoorCoded
import Derived.Test.YtgckmlafpmnekaaDoorLaw
namespace Go.Proofs.YtgckmlafpmnekaaDoor
open Go.RowKit

/-- A disk and its model: their blocks lie apart. -/
structure DaSt (w0 w : World) (p r q : Nat) (v lv wv : Value) (ls ls' : List ByteArray) (ws ws' : List (Nat × ByteArray)) : Prop where
  dk : DkAt w p r v ls ws
  dr : DrAt w q lv wv ls' ws'
  ok1 : ∀ b, dkS p r v b → w0.heap.size ≤ b
  ok2 : ∀ b, drS q lv wv b → w0.heap.size ≤ b
  dis : ∀ b, dkS p r v b → ¬ drS q lv wv b
  below : Below w0.heap.size w0 w

section
variable {w0 w w' : World} {p r q : Nat} {v lv wv v' wv' : Value} {ls ls' ls1 : List ByteArray} {ws ws' ws1 : List (Nat × ByteArray)}
theorem DaSt.ob (h : DaSt w0 w p r q v lv wv ls ls' ws ws') {B : Nat} (hb : Below B w w') (hB : w.heap.size ≤ B) : DaSt w0 w' p r q v lv wv ls ls' ws ws' :=
  { h with dk := h.dk.ob hb hB, dr := h.dr.ob hb hB, below := h.below.trans (hb.mono (Nat.le_trans h.below.size hB)) }
theorem DaSt.real (h : DaSt w0 w p r q v lv wv ls ls' ws ws') (h1 : DkAt w' p r v' ls1 ws1) (h2 : ∀ b, v'.ownBlock = some b → v.ownBlock = some b ∨ w.heap.size ≤ b) (h3 : Fr (dkS p r v) w w') : DaSt w0 w' p r q v' lv wv ls1 ls' ws1 ws' := by
  have hold : ∀ b, dkS p r v' b → dkS p r v b ∨ w.heap.size ≤ b := fun b hb => by
    rcases hb with rfl | rfl | hb
    · exact .inl (.inl rfl)
    · exact .inl (.inr (.inl rfl))
    · rcases h2 b hb with e | e
      · exact .inl (.inr (.inr e))
      · exact .inr e
  refine ⟨h1, h.dr.fr h3 (fun b hb hS => h.dis b hS hb), fun b hb => ?_, h.ok2, fun b hb hd => ?_, h.below.trans (h3.below h.below.size h.ok1)⟩
  · rcases hold b hb with e | e
    · exact h.ok1 b e
    · exact Nat.le_trans h.below.size e
  · rcases hold b hb with e | e
    · exact h.dis b e hd
    · have := h.dr.lt b hd
      omega
theorem DaSt.model (h : DaSt w0 w p r q v lv wv ls ls' ws ws') (h1 : DrAt w' q lv wv' ls1 ws1) (h2 : ∀ b, wv'.ownBlock = some b → wv.ownBlock = some b ∨ w.heap.size ≤ b) (h3 : Fr (drS q lv wv) w w') : DaSt w0 w' p r q v lv wv' ls ls1 ws ws1 := by
  have hold : ∀ b, drS q lv wv' b → drS q lv wv b ∨ w.heap.size ≤ b := fun b hb => by
    rcases hb with rfl | hb | hb
    · exact .inl (.inl rfl)
    · exact .inl (.inr (.inl hb))
    · rcases h2 b hb with e | e
      · exact .inl (.inr (.inr e))
      · exact .inr e
  refine ⟨h.dk.fr h3 (fun b hb hS => h.dis b hb hS), h1, h.ok1, fun b hb => ?_, fun b hd hb => ?_, h.below.trans (h3.below h.below.size h.ok2)⟩
  · rcases hold b hb with e | e
    · exact h.ok2 b e
    · exact Nat.le_trans h.below.size e
  · rcases hold b hb with e | e
    · exact h.dis b hd e
    · have := h.dk.lt b hd
      omega
end

theorem Sz.snoc {ls : List ByteArray} {ws : List (Nat × ByteArray)} (h : Sz ls ws) {k : Nat} {s : ByteArray} (hs : s.size = 16) : Sz ls (ws ++ [(k, s)]) :=
  ⟨h.l, fun i hi => by
    by_cases e : i < ws.length
    · rw [List.getElem_append_left e]; exact h.w i e
    · have : i = ws.length := by simp at hi; omega
      subst this
      simpa using hs⟩
theorem Sz.cr {ls : List ByteArray} {ws : List (Nat × ByteArray)} (h : Sz ls ws) (keep : Nat → Bool) : Sz (crTo keep ls ws ws.length) [] :=
  ⟨fun i hi => crTo_src (Q := fun _ s => s.size = 16) h.l (fun x hx => by obtain ⟨i, hi, rfl⟩ := List.getElem_of_mem hx; exact h.w i hi) ws.length i hi, fun i hi => by simp at hi⟩
theorem Sz.rotD {ls : List ByteArray} {ws : List (Nat × ByteArray)} (h : Sz ls ws) (k bit : Nat) : Sz (ls.set k (turn (ls.getD k ByteArray.empty) bit)) (turnW k bit ws) where
  l := fun i hi => by
    rw [List.getElem_set]
    split
    · rename_i e; subst e
      have hk : k < ls.length := by simpa using hi
      rw [turn_size, List.getD_eq_getElem?_getD, List.getElem?_eq_getElem hk]
      exact h.l k hk
    · exact h.l i (by simpa using hi)
  w := fun i hi => by
    have hi' : i < ws.length := by simpa [turnW] using hi
    have := h.w i hi'
    simp only [turnW, List.getElem_map]
    split
    · simpa [turn_size] using this
    · exact this
theorem Sz.zero (n : Nat) : Sz (List.replicate n (zb 16)) [] := ⟨fun i hi => by rw [List.getElem_replicate]; exact zb_size 16, fun i hi => by simp at hi⟩

theorem len_any (p r : Nat) (v : Value) (ls : List ByteArray) (ws : List (Nat × ByteArray)) (w : World) (h : DkAt w p r v ls ws) :
    Calls Tryd.prog 50 #[.pointer (some ⟨p, 0, none⟩)] w fun e w' => e = .returned (.int .i64 (ls.length : Int)) ∧ w = w' := by
  have h1 := h.hd
  clear h
  go_enter Tryd.func50, Tryd.ntmps50
  go_wp2
  go_ret
  exact ⟨rfl, rfl⟩
end Go.Proofs.YtgckmlafpmnekaaDoor
