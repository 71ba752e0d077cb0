/- Names joined, as a text, in plain words. No condition. -/
import Derived.Test.YtbadnmfmncjdjaaGreatDoorPaP
namespace Go.Proofs.YtbadnmfmncjdjaaGreatDoor
open Go.RowKit
/-- Names joined, as a text. -/
def jt (l : List ByteArray) : ByteArray := ⟨(joined l).toArray⟩
theorem jt_data (l : List ByteArray) : (jt l).data.toList = joined l := rfl
theorem jt_nil : jt [] = ⟨#[]⟩ := rfl
theorem jt_snoc (l : List ByteArray) (x : ByteArray) : jt (l ++ [x]) = sub (jt l) x := by
  apply ba_inj
  rw [jt_data]
  unfold sub joined
  rw [List.map_append, joinL_app]
  simp [jt, joined, joinL]
theorem jt_size (l : List ByteArray) : (jt l).size = (joined l).length := rfl
theorem joined_take (l : List ByteArray) (i : Nat) : (joined (l.take i)).length ≤ (joined l).length := by
  have e : joined l = joined (l.take i) ++ joined (l.drop i) := by
    unfold joined
    rw [← joinL_app, ← List.map_append, List.take_append_drop]
  rw [e, List.length_append]; omega
theorem jt_take {l : List ByteArray} {i : Nat} (h : i < l.length) : jt (l.take (i + 1)) = sub (jt (l.take i)) l[i] := by
  rw [List.take_succ_eq_append_getElem h, jt_snoc]
theorem sub_size (p n : ByteArray) : (sub p n).size = p.size + 1 + n.size := by
  unfold sub; rw [ByteArray.size_append, ByteArray.size_append]; rfl
theorem joined_bd {l : List ByteArray} (h : ∀ x ∈ l, x.size ≤ 30) : (joined l).length ≤ 31 * l.length := by
  induction l with
  | nil => simp [joined, joinL]
  | cons x r ih =>
    have h1 := ih (fun y hy => h y (List.mem_cons_of_mem _ hy))
    have h2 := h x (List.mem_cons_self ..)
    have h3 : x.data.toList.length = x.size := by simp
    unfold joined at h1 ⊢
    simp only [List.map_cons, joinL, List.length_cons, List.length_append]
    omega

end Go.Proofs.YtbadnmfmncjdjaaGreatDoor
