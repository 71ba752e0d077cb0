/- Packs in memory. No condition. -/
import Derived.Test.YtlcabkhalockpaaGreatDoorQ2
import Derived.Test.YtlcabkhalockpaaGreatDoorSl
import Derived.Test.YtlcabkhalockpaaGreatDoorTxt
import Derived.Test.YtlcabkhalockpaaGreatDoorApp
namespace Go.Proofs.YtlcabkhalockpaaGreatDoor
open Go.RowKit

/-- A pack in memory. -/
structure Pv where
  name : ByteArray
  ra : Option Addr
  rc : Nat
  refs : List ByteArray
  k : ByteArray
  d : ByteArray
  e : Bool
  ta : Option Addr
  tn : Nat
  tc : Nat
def Pv.pn (p : Pv) : Pn := (p.name, p.refs)
def Pv.rv (p : Pv) : Value := .slice p.ra p.refs.length p.rc
def Pv.tv (p : Pv) : Value := .slice p.ta p.tn p.tc
def pkcell (p : Pv) : List Value := [.string p.name, p.rv, .string p.k, .string p.d, .bool p.e, p.tv]
def pkcells (l : List Pv) : List Value := l.flatMap pkcell
def pkval (p : Pv) : Value := .agg #[.string p.name, p.rv, .string p.k, .string p.d, .bool p.e, p.tv]
theorem pkcells_len (l : List Pv) : (pkcells l).length = l.length * 6 := by
  induction l with
  | nil => rfl
  | cons x r ih =>
    have e : pkcells (x :: r) = .string x.name :: x.rv :: .string x.k :: .string x.d :: .bool x.e :: x.tv :: pkcells r := rfl
    rw [e]; simp only [List.length_cons, ih]; omega
theorem pkcells_app (a b : List Pv) : pkcells (a ++ b) = pkcells a ++ pkcells b := by simp [pkcells]
theorem pkcells_at : ∀ (l : List Pv) (i : Nat) (h : i < l.length), (pkcells l)[i * 6]? = some (.string l[i].name) ∧ (pkcells l)[i * 6 + 1]? = some l[i].rv ∧ (pkcells l)[i * 6 + 2]? = some (.string l[i].k) ∧ (pkcells l)[i * 6 + 3]? = some (.string l[i].d) ∧ (pkcells l)[i * 6 + 4]? = some (.bool l[i].e) ∧ (pkcells l)[i * 6 + 5]? = some l[i].tv
  | x :: l, 0, h => ⟨rfl, rfl, rfl, rfl, rfl, rfl⟩
  | x :: l, i + 1, h => by
    have := pkcells_at l i (by simpa using h)
    have e : pkcells (x :: l) = .string x.name :: x.rv :: .string x.k :: .string x.d :: .bool x.e :: x.tv :: pkcells l := rfl
    rw [e, show (i + 1) * 6 = i * 6 + 1 + 1 + 1 + 1 + 1 + 1 by omega, show i * 6 + 1 + 1 + 1 + 1 + 1 + 1 + 2 = i * 6 + 2 + 1 + 1 + 1 + 1 + 1 + 1 by omega,
      show i * 6 + 1 + 1 + 1 + 1 + 1 + 1 + 3 = i * 6 + 3 + 1 + 1 + 1 + 1 + 1 + 1 by omega, show i * 6 + 1 + 1 + 1 + 1 + 1 + 1 + 4 = i * 6 + 4 + 1 + 1 + 1 + 1 + 1 + 1 by omega, show i * 6 + 1 + 1 + 1 + 1 + 1 + 1 + 5 = i * 6 + 5 + 1 + 1 + 1 + 1 + 1 + 1 by omega]
    simpa using this
/-- A text is not longer than memory. -/
def Sz (s : ByteArray) : Prop := s.size ≤ 9223372036854775807
/-- A pack's own texts are there. -/
structure Pv.Ok (p : Pv) (w : World) : Prop where
  sl : Sl w p.rv (tcells p.refs) p.refs.length 1
  nm : Sz p.name
  rs : ∀ s ∈ p.refs, Sz s
theorem Pv.Ok.ob {p : Pv} {w w' : World} (h : p.Ok w) (hb : Below w.heap.size w w') : p.Ok w' := ⟨h.sl.ob hb (Nat.le_refl _), h.nm, h.rs⟩
/-- A slice of packs, in memory. -/
def PkI (l : List Pv) (v : Value) (w : World) : Prop := Sl w v (pkcells l) l.length 6 ∧ ∀ p ∈ l, p.Ok w
theorem PkI.ob {l : List Pv} {v : Value} {w w' : World} (h : PkI l v w) (hb : Below w.heap.size w w') : PkI l v w' := ⟨h.1.ob hb (Nat.le_refl _), fun t ht => (h.2 t ht).ob hb⟩
theorem PkI.low {l : List Pv} {v : Value} {w0 w w' : World} (h : PkI l v w0) (h0 : Below w0.heap.size w0 w) (hb : Below w0.heap.size w w') : PkI l v w' := h.ob (h0.trans hb)
theorem PkI.shape {l : List Pv} {v : Value} {w : World} (h : PkI l v w) : ∃ a cap, v = .slice a l.length cap := by
  obtain ⟨a, cap, hv, _⟩ := h.1
  exact ⟨a, cap, hv⟩
theorem PkI.at {l : List Pv} {a : Option Addr} {n cap : Nat} {w : World} (h : PkI l (.slice a n cap) w) {i : Nat} (hi : i < l.length) :
    ∃ b off, a = some ⟨b, off, none⟩ ∧ b < w.heap.size ∧ w.cell? ⟨b, off + i * 6, none⟩ = some (.string l[i].name) ∧ w.cell? ⟨b, off + i * 6 + 1, none⟩ = some l[i].rv ∧ w.cell? ⟨b, off + i * 6 + 2, none⟩ = some (.string l[i].k) ∧ w.cell? ⟨b, off + i * 6 + 3, none⟩ = some (.string l[i].d) ∧ w.cell? ⟨b, off + i * 6 + 4, none⟩ = some (.bool l[i].e) ∧ w.cell? ⟨b, off + i * 6 + 5, none⟩ = some l[i].tv := by
  obtain ⟨a', cap', he, h1, h2, h2', h3⟩ := h.1
  simp only [Value.slice.injEq] at he
  obtain ⟨rfl, rfl, rfl⟩ := he
  rcases h3 with h3 | ⟨b, off, rfl, h4, h5⟩
  · omega
  · have hl := pkcells_len l
    obtain ⟨k0, k1, k2, k3, k4, k5⟩ := pkcells_at l i hi
    refine ⟨b, off, rfl, h4, ?_, ?_, ?_, ?_, ?_, ?_⟩
    · rw [h5 _ (by omega)]; rw [List.getElem?_eq_getElem (by omega)] at k0; exact k0
    · rw [Nat.add_assoc, h5 _ (by omega)]; rw [List.getElem?_eq_getElem (by omega)] at k1; exact k1
    · rw [Nat.add_assoc, h5 _ (by omega)]; rw [List.getElem?_eq_getElem (by omega)] at k2; exact k2
    · rw [Nat.add_assoc, h5 _ (by omega)]; rw [List.getElem?_eq_getElem (by omega)] at k3; exact k3
    · rw [Nat.add_assoc, h5 _ (by omega)]; rw [List.getElem?_eq_getElem (by omega)] at k4; exact k4
    · rw [Nat.add_assoc, h5 _ (by omega)]; rw [List.getElem?_eq_getElem (by omega)] at k5; exact k5
/-- A slice of texts, in memory. -/
def TxI (l : List ByteArray) (v : Value) (w : World) : Prop := Sl w v (tcells l) l.length 1 ∧ ∀ s ∈ l, Sz s
theorem TxI.ob {l : List ByteArray} {v : Value} {w w' : World} (h : TxI l v w) (hb : Below w.heap.size w w') : TxI l v w' := ⟨h.1.ob hb (Nat.le_refl _), h.2⟩
theorem TxI.shape {l : List ByteArray} {v : Value} {w : World} (h : TxI l v w) : ∃ a cap, v = .slice a l.length cap := by
  obtain ⟨a, cap, hv, _⟩ := h.1
  exact ⟨a, cap, hv⟩
theorem TxI.at {l : List ByteArray} {a : Option Addr} {n cap : Nat} {w : World} (h : TxI l (.slice a n cap) w) {i : Nat} (hi : i < l.length) : ∃ b off, a = some ⟨b, off, none⟩ ∧ b < w.heap.size ∧ w.cell? ⟨b, off + i, none⟩ = some (.string l[i]) := by
  obtain ⟨a', cap', he, h1, h2, h2', h3⟩ := h.1
  simp only [Value.slice.injEq] at he
  obtain ⟨rfl, rfl, rfl⟩ := he
  rcases h3 with h3 | ⟨b, off, rfl, h4, h5⟩
  · omega
  · have hl : (tcells l).length = l.length := tcells_len l
    refine ⟨b, off, rfl, h4, ?_⟩
    rw [h5 _ (by omega)]
    simp [tcells]
theorem Pv.Ok.txi {p : Pv} {w : World} (h : p.Ok w) : TxI p.refs p.rv w := ⟨h.sl, h.rs⟩
end Go.Proofs.YtlcabkhalockpaaGreatDoor
