/-
  Moves: copies, comparisons, marks; MovesLength of the program and of the reference.
-/
import Derived.Test.YtnlmiemnblppbaaMv1
import Derived.Deep.RegionHeld3
import Derived.BigRegion
namespace Go.Proofs.Ytnlmiemnblppbaa
open Go.RowKit

theorem Try.infoMv : (Try.prog.info? 31).map (fun i => (i.zero, i.size, i.bytes)) = some (some (.agg #[.int .i64 0, .int .i64 0]), 2, 16) := by kernel_rfl

theorem mvCells_succ (ms : List (Int × Int)) (t : Nat) (h : t < ms.length) (x y : Int) (hm : ms[t] = (x, y)) : mvCells (ms.take (t + 1)) = mvCells (ms.take t) ++ [.int .i64 x, .int .i64 y] := by
  rw [List.take_succ_eq_append_getElem h, hm]
  simp [mvCells]

theorem set_two (ys zs : List Value) (u0 u1 a b : Value) (k : Nat) (hk : k = ys.length) : ((ys ++ u0 :: u1 :: zs).set k a).set (k + 1) b = ys ++ [a, b] ++ zs := by
  subst hk
  simp

theorem two_of_len (zs : List Value) (n : Nat) (h : zs.length = (n + 1) * 2) : ∃ u0 u1 zs', zs = u0 :: u1 :: zs' ∧ zs'.length = n * 2 := by
  match zs, h with
  | u0 :: u1 :: zs', h => exact ⟨u0, u1, zs', rfl, by simp at h; omega⟩
  | [], h => simp at h
  | [_], h => simp at h; omega

/-- What a copy of moves gives: a slice of its own with these moves. -/
def MvNew (ms : List (Int × Int)) (w : World) (e : Ending) (w' : World) : Prop :=
  ∃ v, e = .returned v ∧ w'.ownsRow w.heap.size 31 2 v ms.length (mvCells ms) ∧ Below w.heap.size w w'

def mvLen (m : Int × Int) : Int := max m.1 (-m.1) + max m.2 (-m.2)
def mvSum (ms : List (Int × Int)) (t : Nat) : Int := ((ms.take t).map mvLen).sum
def movesLen (ms : List (Int × Int)) : Int := if mvsIn ms then mvSum ms ms.length else -1

theorem mvSum_succ (ms : List (Int × Int)) (t : Nat) (h : t < ms.length) (x y : Int) (hm : ms[t] = (x, y)) : mvSum ms (t + 1) = mvSum ms t + (max x (-x) + max y (-y)) := by
  unfold mvSum
  rw [List.take_succ_eq_append_getElem h, hm]
  simp [mvLen]

theorem mvSum_bd (ms : List (Int × Int)) (h : mvsUpto ms ms.length) (t : Nat) (ht : t ≤ ms.length) : 0 ≤ mvSum ms t ∧ mvSum ms t ≤ 20000000 * t := by
  induction t with
  | zero => simp [mvSum]
  | succ t ih =>
    have i := ih (by omega)
    have v := h t (by omega) (by omega)
    rw [mvSum_succ ms t (by omega) (ms[t]).1 (ms[t]).2 rfl]
    obtain ⟨a, b, c, d⟩ := v
    omega

theorem mvsIn_parts {ms : List (Int × Int)} (h : mvsIn ms = true) : ms.length ≤ 100 ∧ mvsUpto ms ms.length := by
  simp only [mvsIn, Bool.and_eq_true, List.all_eq_true, decide_eq_true_eq] at h
  exact ⟨h.1, fun i hi _ => h.2 _ (List.getElem_mem hi)⟩

theorem max_if (x : Int) : (if x < -x then -x else x) = max x (-x) := by split <;> omega

end Go.Proofs.Ytnlmiemnblppbaa
