/-
  Comparing two Cycs.
-/
import Derived.Test.YtnlmiemnblppbaaC8
import Derived.Laws.StructEq
namespace Go.Proofs.Ytnlmiemnblppbaa
open Go.RowKit

def C8.eqB (c d : C8) : Bool := c.a0 == d.a0 && (c.a1 == d.a1 && (c.a2 == d.a2 && (c.a3 == d.a3 && (c.a4 == d.a4 && (c.a5 == d.a5 && (c.a6 == d.a6 && c.a7 == d.a7))))))

theorem eqArr (c d : C8) (w : World) : (Op.equalIn 9999 49 c.val d.val).run Try.prog w = .ok (c.eqB d) w := by
  rw [val_spell, val_spell, show (9999 : Nat) = 9998 + 1 from rfl, Op.equalIn]
  have hS := Try.underlying49
  have hz := Try.sizeOf3
  have hi := fun (a b : Int) (w : World) => run_equalIn_int (P := Try.prog) w 9997 3 .i64 .i64 a b Try.underlying3
  simp only [Sem.run_bind, run_underlying hS, Result.andThen_ok, hz]
  simp only [Std.Legacy.Range.forIn_eq_forIn_range', Std.Legacy.Range.size, Nat.sub_zero, Nat.add_sub_cancel, Nat.div_one, List.range'_succ, List.range'_zero, List.forIn_cons, List.forIn_nil]
  go_simp
  unfold C8.eqB
  (repeat' split) <;> simp_all

theorem eqCy (c d : C8) (w : World) : (Op.equalIn 10000 51 c.val d.val).run Try.prog w = .ok (c.eqB d) w := by
  have hS : Try.prog.underlying 51 = some (.struct (Try.prog.fieldsOf 51)) := by kernel_rfl
  have hp : Try.prog.stoodInHeld 51 = false := by kernel_rfl
  have ha := fun w => eqArr c d w
  have hs := Try.sizeOf49
  have hg := Try.isAgg49
  rw [val_spell, val_spell] at ha ⊢
  rw [show (10000 : Nat) = 9999 + 1 from rfl, run_equalIn_agg w 9999 51 _ _ hS hp]
  simp only [Program.fieldsOf, Try.underlying51]
  go_simp
  cases c.eqB d <;> rfl

theorem eqlCy (c d : C8) (w : World) : (binOp .eql 51 c.val d.val).run Try.prog w = .ok (.bool (c.eqB d)) w := by
  have h := eqCy c d w
  rw [val_spell, val_spell] at h ⊢
  rw [run_eql_struct, h]; rfl

theorem neqCy (c d : C8) (w : World) : (binOp .neq 51 c.val d.val).run Try.prog w = .ok (.bool (!c.eqB d)) w := by
  have h := eqCy c d w
  rw [val_spell, val_spell] at h ⊢
  rw [run_neq_struct, h]; rfl

theorem C8.eqB_iff (c d : C8) : c.eqB d = true ↔ c = d := by
  cases c; cases d
  simp [C8.eqB]

theorem C8.eqB_self (c : C8) : c.eqB c = true := (C8.eqB_iff c c).2 rfl

end Go.Proofs.Ytnlmiemnblppbaa
