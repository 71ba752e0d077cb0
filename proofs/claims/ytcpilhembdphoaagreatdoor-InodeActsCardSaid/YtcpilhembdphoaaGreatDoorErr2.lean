/- errors.As that hits an api.Fault; errors.Is between sentinels, and of a Fault. Condition: the errors' blocks are there. -/
import Derived.Test.YtcpilhembdphoaaGreatDoorErr
namespace Go.Proofs.YtcpilhembdphoaaGreatDoor
open Go.RowKit Go.Extern.Stop Go.Stop Go.Extern

theorem eq_same (a : Addr) (w : World) : (binOp .eql 28 (.iface 202 (.pointer (some a))) (.iface 202 (.pointer (some a)))).run Tryz.prog w = .ok (.bool true) w := by
  obtain ⟨i, hi, hc⟩ : ∃ i, Tryz.prog.info? 202 = some i ∧ i.comparable = true := Option.map_eq_some_iff.1 (show (Tryz.prog.info? 202).map (·.comparable) = some true by kernel_rfl)
  obtain ⟨j, hj, _⟩ : ∃ i, Tryz.prog.info? 220 = some i ∧ i.size = 1 := Option.map_eq_some_iff.1 (show (Tryz.prog.info? 220).map (·.size) = some 1 by kernel_rfl)
  exact run_eql_iface_ptr_same w a Tryz.underlying28 Tryz.underlying202 hi hc hj
theorem eq_other {a b : Addr} {ca cb : Array Value} {ta tb : TypeId} (w : World) (hne : a ≠ b) (ha : w.heap[a.block]? = some (.cells ca ta (0, 0))) (hb : w.heap[b.block]? = some (.cells cb tb (0, 0))) :
    (binOp .eql 28 (.iface 202 (.pointer (some a))) (.iface 202 (.pointer (some b)))).run Tryz.prog w = .ok (.bool false) w := by
  obtain ⟨i, hi, hc⟩ : ∃ i, Tryz.prog.info? 202 = some i ∧ i.comparable = true := Option.map_eq_some_iff.1 (show (Tryz.prog.info? 202).map (·.comparable) = some true by kernel_rfl)
  obtain ⟨j, hj, hs⟩ : ∃ i, Tryz.prog.info? 220 = some i ∧ i.size = 1 := Option.map_eq_some_iff.1 (show (Tryz.prog.info? 220).map (·.size) = some 1 by kernel_rfl)
  exact run_eql_iface_ptr_other w Tryz.underlying28 Tryz.underlying202 hi hc hj (by omega) hne ha hb
theorem eq_types (va vb : Value) (w : World) : (binOp .eql 28 (.iface 120 va) (.iface 202 vb)).run Tryz.prog w = .ok (.bool false) w :=
  run_eql_iface_types _ _ _ _ Tryz.underlying28 (by decide) w

set_option maxRecDepth 100000 in
theorem is_same (a : Addr) (w : World) :
    Calls Tryz.prog 59 #[.iface 202 (.pointer (some a)), .iface 202 (.pointer (some a))] w fun ev w' => ev = .returned (.bool true) ∧ w' = w := by
  have h10 := @run_callFunc_extern Tryz.prog 81 _ ReflectliteType.typeOf Tryz.func81 (by kernel_rfl) (by kernel_rfl) (by kernel_rfl) (by kernel_rfl)
  have h11 := @run_callFunc_extern Tryz.prog 145 _ (ReflectliteType.method (fun t => do Rtype.noPackHeld "Comparable" t; pure (.bool (← typeInfo t).comparable))) Tryz.func145 (by kernel_rfl) (by kernel_rfl) (by kernel_rfl) (by kernel_rfl)
  have tO := rf_typeOfE
  have mC := rf_mComparable
  have cE := rf_comparableE
  have he := eq_same a
  go_enter Tryz.func59, Tryz.ntmps59
  go_wp2
  refine wp_loop_rounds 1 ?_
  rw [rounds_succ]
  go_wp2
  go_ret
  exact ⟨rfl, rfl⟩

set_option maxRecDepth 100000 in
theorem is_other {a b : Addr} {ca cb : Array Value} {ta tb : TypeId} (w : World) (hne : a ≠ b) (ha : w.heap[a.block]? = some (.cells ca ta (0, 0))) (hb : w.heap[b.block]? = some (.cells cb tb (0, 0))) :
    Calls Tryz.prog 59 #[.iface 202 (.pointer (some a)), .iface 202 (.pointer (some b))] w fun ev w' => ev = .returned (.bool false) ∧ w' = w := by
  have h10 := @run_callFunc_extern Tryz.prog 81 _ ReflectliteType.typeOf Tryz.func81 (by kernel_rfl) (by kernel_rfl) (by kernel_rfl) (by kernel_rfl)
  have h11 := @run_callFunc_extern Tryz.prog 145 _ (ReflectliteType.method (fun t => do Rtype.noPackHeld "Comparable" t; pure (.bool (← typeInfo t).comparable))) Tryz.func145 (by kernel_rfl) (by kernel_rfl) (by kernel_rfl) (by kernel_rfl)
  have tO := rf_typeOfE
  have mC := rf_mComparable
  have cE := rf_comparableE
  have he := eq_other w hne ha hb
  have n1 := rf_noIs
  have n2 := rf_noUnwrap
  have n3 := rf_noUnwraps
  clear hne ha hb
  go_enter Tryz.func59, Tryz.ntmps59
  go_wp2
  refine wp_loop_rounds 1 ?_
  rw [rounds_succ]
  go_wp2
  go_ret
  exact ⟨rfl, rfl⟩

set_option maxRecDepth 100000 in
theorem is_fault_same (f : Nat) (a : Addr) (w : World) (hf : w.cell? ⟨f, 1, none⟩ = some (.iface 202 (.pointer (some a)))) :
    Calls Tryz.prog 59 #[.iface 120 (.pointer (some ⟨f, 0, none⟩)), .iface 202 (.pointer (some a))] w fun ev w' => ev = .returned (.bool true) ∧ w' = w := by
  have h10 := @run_callFunc_extern Tryz.prog 81 _ ReflectliteType.typeOf Tryz.func81 (by kernel_rfl) (by kernel_rfl) (by kernel_rfl) (by kernel_rfl)
  have h11 := @run_callFunc_extern Tryz.prog 145 _ (ReflectliteType.method (fun t => do Rtype.noPackHeld "Comparable" t; pure (.bool (← typeInfo t).comparable))) Tryz.func145 (by kernel_rfl) (by kernel_rfl) (by kernel_rfl) (by kernel_rfl)
  have tO := rf_typeOfE
  have mC := rf_mComparable
  have cE := rf_comparableE
  have he := eq_same a
  have ht := eq_types
  have n1 := rf_noIsF
  have n2 := rf_unwrapF
  have n3 := rf_mUnwrap
  go_enter Tryz.func59, Tryz.ntmps59
  go_wp2
  refine wp_loop_rounds 2 ?_
  rw [rounds_succ]
  go_wp2
  rw [rounds_succ]
  go_wp2
  go_ret
  exact ⟨rfl, rfl⟩

set_option maxRecDepth 100000 in
theorem is_fault_other (f : Nat) {a b : Addr} {ca cb : Array Value} {ta tb : TypeId} (w : World) (hf : w.cell? ⟨f, 1, none⟩ = some (.iface 202 (.pointer (some a))))
    (hne : a ≠ b) (ha : w.heap[a.block]? = some (.cells ca ta (0, 0))) (hb : w.heap[b.block]? = some (.cells cb tb (0, 0))) :
    Calls Tryz.prog 59 #[.iface 120 (.pointer (some ⟨f, 0, none⟩)), .iface 202 (.pointer (some b))] w fun ev w' => ev = .returned (.bool false) ∧ w' = w := by
  have h10 := @run_callFunc_extern Tryz.prog 81 _ ReflectliteType.typeOf Tryz.func81 (by kernel_rfl) (by kernel_rfl) (by kernel_rfl) (by kernel_rfl)
  have h11 := @run_callFunc_extern Tryz.prog 145 _ (ReflectliteType.method (fun t => do Rtype.noPackHeld "Comparable" t; pure (.bool (← typeInfo t).comparable))) Tryz.func145 (by kernel_rfl) (by kernel_rfl) (by kernel_rfl) (by kernel_rfl)
  have tO := rf_typeOfE
  have mC := rf_mComparable
  have cE := rf_comparableE
  have he := eq_other w hne ha hb
  have ht := eq_types
  have n1 := rf_noIsF
  have n2 := rf_unwrapF
  have n3 := rf_mUnwrap
  have m1 := rf_noIs
  have m2 := rf_noUnwrap
  have m3 := rf_noUnwraps
  clear hne ha hb
  go_enter Tryz.func59, Tryz.ntmps59
  go_wp2
  refine wp_loop_rounds 2 ?_
  rw [rounds_succ]
  go_wp2
  rw [rounds_succ]
  go_wp2
  go_ret
  exact ⟨rfl, rfl⟩

/-- errors.As(err, &f) where err is an api.Fault: true, f is it. -/
theorem as_hit (e t : Addr) (old : Value) (w : World) (hg : w.cell? ⟨13, 0, none⟩ = some (.iface 166 (.agg #[.pointer (some ⟨15, 28, none⟩)]))) (ht0 : w.cell? t = some old) (hf0 : w.frozen? t = false) :
    Calls Tryz.prog 58 #[.iface 120 (.pointer (some e)), .iface 122 (.pointer (some t))] w fun ev w' => ev = .returned (.bool true) ∧ w' = ((((w.alloc (.cells #[.pointer (some t)] 122)).alloc (.cells #[.pointer (some ⟨15, 122, none⟩), .pointer (some ⟨w.heap.size, 0, none⟩), .int .u64 150] 142)).alloc (.cells #[.pointer (some ⟨15, 122, none⟩), .pointer (some ⟨w.heap.size, 0, none⟩), .int .u64 150] 142)).alloc (.cells #[.pointer (some e)] 120)).setCell t (.pointer (some e)) := by
  have h6 := @run_callFunc_extern Tryz.prog 77 _ (fun args => ReflectliteValue.unpack (args.getD 0 (.tuple #[]))) Tryz.func77 (by kernel_rfl) (by kernel_rfl) (by kernel_rfl) (by kernel_rfl)
  have h7 := @run_callFunc_extern Tryz.prog 78 _ (ReflectliteValue.methodAny (ReflectliteValue.valueError "reflectlite.Value.Type" 0) (fun t _ _ _ => ReflectliteType.toType t)) Tryz.func78 (by kernel_rfl) (by kernel_rfl) (by kernel_rfl) (by kernel_rfl)
  have h8 := @run_callFunc_extern Tryz.prog 79 _ (ReflectliteValue.method (ReflectliteValue.valueError "reflectlite.Value.IsNil" 0) ReflectliteValue.isNil) Tryz.func79 (by kernel_rfl) (by kernel_rfl) (by kernel_rfl) (by kernel_rfl)
  have h27 := @run_callFunc_extern Tryz.prog 134 _ (ReflectliteType.abiMethod fun t => do pure (.int .u8 (← Rtype.kind t))) Tryz.func134 (by kernel_rfl) (by kernel_rfl) (by kernel_rfl) (by kernel_rfl)
  have h37 := @run_callFunc_extern Tryz.prog 146 _ (ReflectliteType.method ReflectliteType.elem) Tryz.func146 (by kernel_rfl) (by kernel_rfl) (by kernel_rfl) (by kernel_rfl)
  have h38 := @run_callFunc_extern Tryz.prog 147 _ (ReflectliteType.relation "Implements" ReflectliteType.implements_) Tryz.func147 (by kernel_rfl) (by kernel_rfl) (by kernel_rfl) (by kernel_rfl)
  have h10 := @run_callFunc_extern Tryz.prog 81 _ ReflectliteType.typeOf Tryz.func81 (by kernel_rfl) (by kernel_rfl) (by kernel_rfl) (by kernel_rfl)
  have h35 := @run_callFunc_extern Tryz.prog 144 _ (ReflectliteType.relation "AssignableTo" ReflectliteType.assignableTo) Tryz.func144 (by kernel_rfl) (by kernel_rfl) (by kernel_rfl) (by kernel_rfl)
  have h11 := @run_callFunc_extern Tryz.prog 97 _ (ReflectliteValue.method (ReflectliteValue.valueError "reflectlite.Value.Elem" 0) ReflectliteValue.elem) Tryz.func97 (by kernel_rfl) (by kernel_rfl) (by kernel_rfl) (by kernel_rfl)
  have h12 := @run_callFunc_extern Tryz.prog 98 _ ReflectliteValue.set Tryz.func98 (by kernel_rfl) (by kernel_rfl) (by kernel_rfl) (by kernel_rfl)
  have tO := rf_typeOfP
  have mA := rf_mAssignable
  have a25 := rf_assignableP
  have v25 := rf_valueOfP
  have f6 := rf_valueOf
  have f7 := rf_type
  have mK := rf_mKind
  have mE := rf_mElem
  have mI := rf_mImplements
  have k27 := rf_kindPP
  have k25 := rf_kindP
  have e27 := rf_elem
  have i25 := rf_implements
  have n8 := rf_isNil ⟨w.heap.size, 0, none⟩ t ((w.alloc (.cells #[.pointer (some t)] 122)).alloc (.cells #[.pointer (some ⟨15, 122, none⟩), .pointer (some ⟨w.heap.size, 0, none⟩), .int .u64 150] 142)) (by simp)
  have hlt : 13 < w.heap.size := World.block_lt_of_cell? w _ hg
  have hg2 : ((w.alloc (.cells #[.pointer (some t)] 122)).alloc (.cells #[.pointer (some ⟨15, 122, none⟩), .pointer (some ⟨w.heap.size, 0, none⟩), .int .u64 150] 142)).cell? ⟨13, 0, none⟩ = some (.iface 166 (.agg #[.pointer (some ⟨15, 28, none⟩)])) := by
    rw [World.cell?_alloc_lt _ _ ⟨13, 0, none⟩ (by simp; omega), World.cell?_alloc_lt _ _ ⟨13, 0, none⟩ hlt]; exact hg
  have htl : t.block < w.heap.size := World.block_lt_of_cell? w _ ht0
  have el := rf_elemV ⟨w.heap.size, 0, none⟩ t (((w.alloc (.cells #[.pointer (some t)] 122)).alloc (.cells #[.pointer (some ⟨15, 122, none⟩), .pointer (some ⟨w.heap.size, 0, none⟩), .int .u64 150] 142)).alloc (.cells #[.pointer (some ⟨15, 122, none⟩), .pointer (some ⟨w.heap.size, 0, none⟩), .int .u64 150] 142)) (by rw [World.cell?_alloc_lt _ _ ⟨w.heap.size, 0, none⟩ (by simp; omega)]; simp)
  have st := rf_set t ⟨w.heap.size + 1 + 1 + 1, 0, none⟩ e old ((((w.alloc (.cells #[.pointer (some t)] 122)).alloc (.cells #[.pointer (some ⟨15, 122, none⟩), .pointer (some ⟨w.heap.size, 0, none⟩), .int .u64 150] 142)).alloc (.cells #[.pointer (some ⟨15, 122, none⟩), .pointer (some ⟨w.heap.size, 0, none⟩), .int .u64 150] 142)).alloc (.cells #[.pointer (some e)] 120))
    (by rw [World.cell?_alloc_at _ _ _ _ (by simp)]; rfl)
    (by rw [World.cell?_alloc_lt _ _ t (by simp; omega), World.cell?_alloc_lt _ _ t (by simp; omega), World.cell?_alloc_lt _ _ t (by simp; omega), World.cell?_alloc_lt _ _ t htl]; exact ht0)
    (by rw [World.frozen?_alloc_old _ _ t (by simp; omega), World.frozen?_alloc_old _ _ t (by simp; omega), World.frozen?_alloc_old _ _ t (by simp; omega), World.frozen?_alloc_old _ _ t (Nat.ne_of_lt htl)]; exact hf0)
  go_enter Tryz.func58, Tryz.ntmps58
  go_wp2
  refine wp_loop_rounds 1 ?_
  rw [rounds_succ]
  go_wp2
  go_ret
  exact ⟨rfl, rfl⟩

end Go.Proofs.YtcpilhembdphoaaGreatDoor
