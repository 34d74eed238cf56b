/-
  errors.As where the error joins others, the first a misfit: it is found.
-/
import Derived.Test.YtodjmmdfgjkhiaaGreatDoorAs
import Derived.Outline
namespace Go.Proofs.YtodjmmdfgjkhiaaGreatDoor
open Go.RowKit Go.Extern.Stop Go.Stop Go.Extern

theorem as_typeOfJ (v : Value) (w : World) : (ReflectliteType.typeOf #[.iface 77 v]).run Tryz.prog w = .ok (.iface 101 (.agg #[.pointer (some ⟨1, 77, none⟩)])) w := by kernel_rfl
theorem as_assignableJ (w : World) : (ReflectliteType.relation "AssignableTo" ReflectliteType.assignableTo #[.agg #[.pointer (some ⟨1, 77, none⟩)], .iface 101 (.agg #[.pointer (some ⟨1, 58, none⟩)])]).run Tryz.prog w = .ok (.bool false) w := by kernel_rfl
theorem as_methodUnwrapJ (h : Value) (w : World) : (Go.method 262 77 h "Unwrap").run Tryz.prog w = .ok (105, h) w := by kernel_rfl

theorem as_noAsJ (v : Value) (xT : TypeId) (w : World) : (Instr.typeAssert (.iface 77 v) xT 106 true).run Tryz.prog w = .ok (.tuple #[.nilIface, .bool false]) w := run_typeAssert_lacksB Tryz.underlying106 (by kernel_rfl) (by kernel_rfl) v xT w
theorem as_noUnwrapJ (v : Value) (xT : TypeId) (w : World) : (Instr.typeAssert (.iface 77 v) xT 109 true).run Tryz.prog w = .ok (.tuple #[.nilIface, .bool false]) w := run_typeAssert_lacksB Tryz.underlying109 (by kernel_rfl) (by kernel_rfl) v xT w
theorem as_unwrapsJ (v : Value) (xT : TypeId) (w : World) : (Instr.typeAssert (.iface 77 v) xT 111 true).run Tryz.prog w = .ok (.tuple #[.iface 77 v, .bool true]) w := run_typeAssert_hasB Tryz.underlying111 (by kernel_rfl) v xT w

set_option maxHeartbeats 4000000 in
theorem asin_hit (e t b : Addr) (old : Value) (w : World) (hbc : w.cell? b = some (.pointer (some t))) (ht0 : w.cell? t = some old) (hf0 : w.frozen? t = false) :
    Calls Tryz.prog 55 #[.iface 58 (.pointer (some e)), .iface 62 (.pointer (some t)), .agg #[.pointer (some ⟨1, 62, none⟩), .pointer (some b), .int .u64 150], .iface 101 (.agg #[.pointer (some ⟨1, 58, none⟩)])] w fun ev w' => ev = .returned (.bool true) ∧ w' = ((w.alloc (.cells #[.pointer (some ⟨1, 62, none⟩), .pointer (some b), .int .u64 150] 83)).alloc (.cells #[.pointer (some e)] 58)).setCell t (.pointer (some e)) := by
  have h6 := @run_callFunc_extern Tryz.prog 52 _ (fun args => ReflectliteValue.unpack (args.getD 0 (.tuple #[]))) Tryz.func52 (by kernel_rfl) (by kernel_rfl) (by kernel_rfl) (by kernel_rfl)
  have h10 := @run_callFunc_extern Tryz.prog 66 _ ReflectliteType.typeOf Tryz.func66 (by kernel_rfl) (by kernel_rfl) (by kernel_rfl) (by kernel_rfl)
  have h35 := @run_callFunc_extern Tryz.prog 110 _ (ReflectliteType.relation "AssignableTo" ReflectliteType.assignableTo) Tryz.func110 (by kernel_rfl) (by kernel_rfl) (by kernel_rfl) (by kernel_rfl)
  have h11 := @run_callFunc_extern Tryz.prog 67 _ (ReflectliteValue.method (ReflectliteValue.valueError "reflectlite.Value.Elem" 0) ReflectliteValue.elem) Tryz.func67 (by kernel_rfl) (by kernel_rfl) (by kernel_rfl) (by kernel_rfl)
  have h12 := @run_callFunc_extern Tryz.prog 68 _ ReflectliteValue.set Tryz.func68 (by kernel_rfl) (by kernel_rfl) (by kernel_rfl) (by kernel_rfl)
  have tO := as_typeOfM
  have mA := as_methodAssignableTo
  have a25 := as_assignableM
  have v25 := as_valueOfM
  have hbl : b.block < w.heap.size := World.block_lt_of_cell? _ _ hbc
  have htl : t.block < w.heap.size := World.block_lt_of_cell? _ _ ht0
  have el := as_elemVP b t (w.alloc (.cells #[.pointer (some ⟨1, 62, none⟩), .pointer (some b), .int .u64 150] 83)) (by rw [World.cell?_alloc_lt _ _ b hbl]; exact hbc)
  have st := as_setM t ⟨w.heap.size + 1, 0, none⟩ e old ((w.alloc (.cells #[.pointer (some ⟨1, 62, none⟩), .pointer (some b), .int .u64 150] 83)).alloc (.cells #[.pointer (some e)] 58))
    (by rw [World.cell?_alloc_at _ _ _ _ (by simp)]; rfl)
    (by rw [World.cell?_alloc_lt _ _ t (by simp; omega), World.cell?_alloc_lt _ _ t htl]; exact ht0)
    (by rw [World.frozen?_alloc_old _ _ t (by simp; omega), World.frozen?_alloc_old _ _ t (Nat.ne_of_lt htl)]; exact hf0)
  go_enter Tryz.func55, Tryz.ntmps55
  go_wp2
  refine wp_loop_rounds 1 ?_
  rw [rounds_succ]
  go_wp2
  go_ret
  exact ⟨rfl, rfl⟩

theorem unwrapJ_ok (j : Nat) (v : Value) (w : World) (hj : w.cell? ⟨j, 0, none⟩ = some v) :
    Calls Tryz.prog 105 #[.pointer (some ⟨j, 0, none⟩)] w fun e w' => e = .returned v ∧ w = w' := by
  go_enter Tryz.func105, Tryz.ntmps105
  go_wp2
  go_ret
  exact ⟨rfl, rfl⟩

set_option maxRecDepth 100000 in
set_option maxHeartbeats 4000000 in
theorem asin_join (j n c : Nat) (A : Addr) (e t b : Addr) (old : Value) (w : World) (hbc : w.cell? b = some (.pointer (some t))) (ht0 : w.cell? t = some old) (hf0 : w.frozen? t = false)
    (hj : w.cell? ⟨j, 0, none⟩ = some (.slice (some A) n c)) (hn : 0 < n) (hn2 : n ≤ 1000) (hA : w.cell? A = some (.iface 58 (.pointer (some e)))) :
    Calls Tryz.prog 55 #[.iface 77 (.pointer (some ⟨j, 0, none⟩)), .iface 62 (.pointer (some t)), .agg #[.pointer (some ⟨1, 62, none⟩), .pointer (some b), .int .u64 150], .iface 101 (.agg #[.pointer (some ⟨1, 58, none⟩)])] w fun ev w' => ev = .returned (.bool true) ∧ w' = (((w.alloc (.cells #[.pointer (some ⟨1, 62, none⟩), .pointer (some b), .int .u64 150] 83)).alloc (.cells #[.pointer (some ⟨1, 62, none⟩), .pointer (some b), .int .u64 150] 83)).alloc (.cells #[.pointer (some e)] 58)).setCell t (.pointer (some e)) := by
  have h10 := @run_callFunc_extern Tryz.prog 66 _ ReflectliteType.typeOf Tryz.func66 (by kernel_rfl) (by kernel_rfl) (by kernel_rfl) (by kernel_rfl)
  have h35 := @run_callFunc_extern Tryz.prog 110 _ (ReflectliteType.relation "AssignableTo" ReflectliteType.assignableTo) Tryz.func110 (by kernel_rfl) (by kernel_rfl) (by kernel_rfl) (by kernel_rfl)
  have tO := as_typeOfJ
  have mA := as_methodAssignableTo
  have a25 := as_assignableJ
  have mU := as_methodUnwrapJ
  have q1 := as_noAsJ
  have q2 := as_noUnwrapJ
  have q3 := as_unwrapsJ
  have hbl : b.block < w.heap.size := World.block_lt_of_cell? _ _ hbc
  have htl : t.block < w.heap.size := World.block_lt_of_cell? _ _ ht0
  go_enter Tryz.func55, Tryz.ntmps55
  go_wp2_with fail
  refine wp_loop_rounds 1 ?_
  rw [rounds_succ]
  go_wp2_with fail
  refine (unwrapJ_ok j _ _ (by rw [World.cell?_alloc_lt _ _ _ (World.block_lt_of_cell? _ _ hj)]; exact hj)).mono ?_
  rintro ev w1 ⟨rfl, rfl⟩
  have hA1 : (w.alloc (.cells #[.pointer (some ⟨1, 62, none⟩), .pointer (some b), .int .u64 150] 83)).cell? A = some (.iface 58 (.pointer (some e))) := by rw [World.cell?_alloc_lt _ _ _ (World.block_lt_of_cell? _ _ hA)]; exact hA
  have hb1 : (w.alloc (.cells #[.pointer (some ⟨1, 62, none⟩), .pointer (some b), .int .u64 150] 83)).cell? b = some (.pointer (some t)) := by rw [World.cell?_alloc_lt _ _ b hbl]; exact hbc
  have ht1 : (w.alloc (.cells #[.pointer (some ⟨1, 62, none⟩), .pointer (some b), .int .u64 150] 83)).cell? t = some old := by rw [World.cell?_alloc_lt _ _ t htl]; exact ht0
  have hf1 : (w.alloc (.cells #[.pointer (some ⟨1, 62, none⟩), .pointer (some b), .int .u64 150] 83)).frozen? t = false := by rw [World.frozen?_alloc_old _ _ t (Nat.ne_of_lt htl)]; exact hf0
  have hn0 : (0 : Int) < (n : Int) := by omega
  go_wp2_with fail
  refine wp_loop_rounds 1 ?_
  rw [rounds_succ]
  go_wp2_with fail
  refine (asin_hit e t b old _ hb1 ht1 hf1).mono ?_
  rintro ev w1 ⟨rfl, rfl⟩
  go_wp2_with fail
  go_ret
  exact ⟨rfl, by simp⟩
end Go.Proofs.YtodjmmdfgjkhiaaGreatDoor
