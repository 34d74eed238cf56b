/-
  slices.Chunk(list, 2) at a list of an even number of ints: a function that hands over the pairs, in order.
-/
import Derived.RangeFuncNested
import Derived.RangeFuncBound
import Derived.RangeFuncCalls
import Derived.RangeFuncLeaves
import Derived.RangeFuncFrom
import Derived.RangeFuncBox
import Derived.Shelf.Abstract
import Derived.Shelf.RegionOpen
import Derived.WalkKit
import Derived.OwnWalkIn
import Derived.TacticsInMore
import Derived.LoopNIn
import Derived.LoopIn
import Derived.Outline
import Derived.Sort.QuietIn
import Derived.BigQuiet
import Derived.Test.YtiiocjkhjogfkaaDoorIn
namespace Go.Proofs.YtiiocjkhjogfkaaDoor
open Go.RowKit Go.Shelf
attribute [local go_sem] Oper.semAt_some

theorem chunk_ok (A : Option Addr) (n c : Nat) (w : World) : Calls Tryd.prog 45 #[.slice A n c, .int .i64 2] w fun e w' => e = .returned (.func (.func 50) #[] #[.pointer (some ⟨w.heap.size, 0, none⟩), .pointer (some ⟨w.heap.size + 1, 0, none⟩)]) ∧
    w' = (w.alloc (.cells #[.slice A n c] 29)).alloc (.cells #[.int .i64 2] 3) := by
  go_enter Tryd.func45, Tryd.ntmps45
  go_wp2
  go_ret
  exact ⟨rfl, rfl⟩

/-- A cell of an int in a block of its own. -/
def Cel (w : World) (B : Nat) (T : TypeId) (v : Value) : Prop := w.heap[B]? = some (.cells #[v] T (0, 0))
theorem cel_lt {w : World} {B : Nat} {T : TypeId} {v : Value} (h : Cel w B T v) : B < w.heap.size := lt_of_block h
theorem cel_cell {w : World} {B : Nat} {T : TypeId} {v : Value} (h : Cel w B T v) : w.cell? ⟨B, 0, none⟩ = some v := by rw [cell_of_row w B 0 _ _ (0, 0) h]; rfl
theorem cel_free {w : World} {B : Nat} {T : TypeId} {v : Value} (h : Cel w B T v) : w.frozen? ⟨B, 0, none⟩ = false := frozen_of_row w B 0 _ _ h
theorem cel_set {w : World} {B : Nat} {T : TypeId} {v : Value} (h : Cel w B T v) (u : Value) : Cel (w.setCell ⟨B, 0, none⟩ u) B T u := by
  unfold Cel
  rw [heap_setCell_same w B 0 _ _ u h]; rfl
theorem cel_other {w : World} {B B' : Nat} {T : TypeId} {v : Value} (h : Cel w B T v) (u : Value) (hne : B ≠ B') : Cel (w.setCell ⟨B', 0, none⟩ u) B T v := (Below.heap_setCell _ _ _ _ hne).trans h
theorem cel_kept {w w' : World} {B : Nat} {T : TypeId} {v : Value} (h : Cel w B T v) (hk : Below w.heap.size w w') : Cel w' B T v := (hk.block B (cel_lt h)).trans h
theorem cel_alloc {w : World} {B : Nat} {T : TypeId} {v : Value} (h : Cel w B T v) (o : Obj) : Cel (w.alloc o) B T v := cel_kept h (kept_new w o)
theorem cel_new (w : World) (v : Value) (T : TypeId) : Cel (w.alloc (.cells #[v] T)) w.heap.size T v := heap_alloc_new w _

theorem cel_of {w w' : World} {B : Nat} {T : TypeId} {v : Value} (h : Cel w B T v) (hk : w'.heap[B]? = w.heap[B]?) : Cel w' B T v := hk.trans h

/-- What a round keeps for the iterator: its two boxes. -/
def KpC (B1 B2 : Nat) (W W' : World) : Prop := W'.heap[B1]? = W.heap[B1]? ∧ W'.heap[B2]? = W.heap[B2]?

/-- The places of m pairs. -/
abbrev Pl (m : Nat) := { k : Nat // k < m }
/-- A list of places that stand in their order. -/
def InOrder {m : Nat} (xs : List (Pl m)) : Prop := ∀ (i : Nat) x, xs[i]? = some x → x.1 = i

set_option maxRecDepth 100000 in
set_option maxHeartbeats 2000000 in
theorem chunk1_in (n : Nat) (hn : 1 ≤ n) (l B1 B2 b o m c : Nat) (hc : 2 * m ≤ c) (hm : m ≤ 100) (J Jx : List (Pl m) → World → Prop) (hJa : ∀ pre (A : World) q, J pre A → J pre (A.drewN q))
    (hY : ∀ pre x W, J pre W → pre.length < m → YieldAt Fence.wide (n - 1) Tryd.prog l #[.slice (some ⟨b, o + x.1 * 2, none⟩) 2 2] W fun e W' =>
      (e = .returned (.bool true) ∧ J (pre ++ [x]) W' ∧ KpC B1 B2 W W') ∨ (e = .returned (.bool false) ∧ Jx (pre ++ [x]) W'))
    (W : World) (h1' : Cel W B1 29 (.slice (some ⟨b, o, none⟩) (2 * m : Nat) c)) (h2' : Cel W B2 3 (.int .i64 2)) (h0 : J [] W) :
    CallsIn Fence.wide n Tryd.prog 50 #[.func (.yield l) #[] #[], .pointer (some ⟨B1, 0, none⟩), .pointer (some ⟨B2, 0, none⟩)] W fun e W' => (∃ v, e = .returned v) ∧
      ((∃ xs, xs.length = m ∧ (∀ (i : Nat) x, xs[i]? = some x → x.1 = i) ∧ J xs W') ∨ (∃ pre, (pre.length ≤ m ∧ ∀ (i : Nat) x, pre[i]? = some x → x.1 = i) ∧ Jx pre W')) := by
  have h1 := cel_cell h1'
  have h2 := cel_cell h2'
  refine callsIn_of_wp Tryd.func50 rfl trivial ?_ rfl
  simp only [Tryd.ntmps50, List.size_toArray, List.length_cons, List.length_nil, Nat.reduceAdd, Nat.reduceSub, Array.replicate_succ, Array.replicate_zero, List.push_toArray, List.append_toArray, List.nil_append, List.cons_append]
  gi_wp2
  gi_loopw [4] (fun i wr => ∃ (k : Nat) (pre : List (Pl m)), k ≤ m ∧ i = .int .i64 (k * 2 : Nat) ∧ pre.length = k ∧ (∀ (i : Nat) x, pre[i]? = some x → x.1 = i) ∧ J pre wr ∧ Cel wr B1 29 (.slice (some ⟨b, o, none⟩) (2 * m : Nat) c) ∧ Cel wr B2 3 (.int .i64 2))
    (fun i _ => 2 * m - (intOf i).toNat)
  case atStart => exact ⟨0, [], Nat.zero_le _, rfl, rfl, by simp, h0, h1', h2'⟩
  case round =>
    obtain ⟨k, pre, hk, rfl, hl, hp, hJ, k1, k2⟩ := hrel
    have c1 := cel_cell k1
    have c2 := cel_cell k2
    have Hp := hide hp
    have K1 := hide k1
    have K2 := hide k2
    clear hp h1 h2 h1' h2' k1 k2
    by_cases hlt : k < m
    · have hY' := fun W h => hY pre ⟨k, hlt⟩ W h (by omega)
      dsimp only at hY'
      have hk2 : k * 2 + 2 ≤ 2 * m := by omega
      have hmeas : 2 * m - (k + 1) * 2 < 2 * m - k * 2 := by omega
      have hnext : ((k + 1) * 2 : Nat) = k * 2 + 2 := by omega
      have HN := hide hnext
      clear hnext
      generalize hq : k * 2 = q at *
      generalize hM : 2 * m = M at *
      have HQ := hide hq
      have HM := hide hM
      clear hq hM
      have q1 : (q : Int) < (M : Int) := by omega
      have q2 : (0 : Int) ≤ (q : Int) := by omega
      have q3 : (q : Int) ≤ (c : Int) := by omega
      have q4 : (M : Int) ≤ (c : Int) := by omega
      have HY := hide hY'
      clear hY' hY
      gi_wp2
      gi_quiet (fail)
      rename_i nq
      obtain ⟨fn, tmps, assign, body, hy, hR⟩ := HY.out (wr.drewN nq) (hJa _ _ _ hJ)
      gi_wp2
      refine hR.mono ?_
      rintro e W3 (⟨rfl, hJ3, hk3⟩ | ⟨rfl, hJx3⟩)
      · have k1 := cel_of K1.out (w' := W3) hk3.1
        have k2 := cel_of K2.out (w' := W3) hk3.2
        have c3 := cel_cell k2
        have K31 := hide k1
        have K32 := hide k2
        clear k1 k2
        gi_wp2
        go_roundw
        case rel =>
          refine ⟨k + 1, pre ++ [⟨k, hlt⟩], by omega, by rw [HN.out]; go_num, by simp [hl], fun i x hi => ?_, hJ3, K31.out, K32.out⟩
          by_cases h : i < pre.length
          · rw [List.getElem?_append_left h] at hi
            exact Hp.out i x hi
          · rw [List.getElem?_append_right (by omega)] at hi
            have hi0 : i - pre.length = 0 := by
              rcases Nat.eq_zero_or_pos (i - pre.length) with h0 | h0
              · exact h0
              · rw [List.getElem?_eq_none (by simp; omega)] at hi; cases hi
            rw [hi0] at hi
            obtain rfl : x = ⟨k, hlt⟩ := by simpa using hi.symm
            show k = i
            omega
        case measure => simp [intOf]; omega
      · gi_wp2
        refine bodyPost_ret (results_none rfl _ _ _) rfl ?_
        refine ⟨⟨_, rfl⟩, .inr ⟨_, ⟨by simp; omega, fun i x hi => ?_⟩, hJx3⟩⟩
        by_cases h : i < pre.length
        · rw [List.getElem?_append_left h] at hi
          exact Hp.out i x hi
        · rw [List.getElem?_append_right (by omega)] at hi
          have hi0 : i - pre.length = 0 := by
            rcases Nat.eq_zero_or_pos (i - pre.length) with h0 | h0
            · exact h0
            · rw [List.getElem?_eq_none (by simp; omega)] at hi; cases hi
          rw [hi0] at hi
          obtain rfl : x = ⟨k, hlt⟩ := by simpa using hi.symm
          show k = i
          omega
    · obtain rfl : k = m := by omega
      gi_wp2
      go_end0
      exact ⟨⟨_, rfl⟩, .inl ⟨pre, hl, Hp.out, hJ⟩⟩

theorem chunk_stops (n : Nat) (hn : 1 ≤ n) (B1 B2 b o m c : Nat) (hc : 2 * m ≤ c) (hm : m ≤ 100) (w : World)
    (h1 : Cel w B1 29 (.slice (some ⟨b, o, none⟩) (2 * m : Nat) c)) (h2 : Cel w B2 3 (.int .i64 2)) :
    SeqStopsK Fence.wide n Tryd.prog 50 #[.pointer (some ⟨B1, 0, none⟩), .pointer (some ⟨B2, 0, none⟩)] (fun x : Pl m => #[.slice (some ⟨b, o + x.1 * 2, none⟩) 2 2]) (KpC B1 B2)
      (fun xs => xs.length = m ∧ InOrder xs) (fun pre => pre.length ≤ m ∧ InOrder pre) m w := fun l J Jx W hW hJ _ hY h0 => by
  refine (chunk1_in n hn l B1 B2 b o m c hc hm J Jx (fun pre A q hj => hJ _ _ _ none hj (grown_of_kept (kept_drewN A q) none) (by simp)) hY W (cel_kept h1 hW) (cel_kept h2 hW) h0).mono ?_
  rintro e W' ⟨he, ⟨xs, hx1, hx2, hj⟩ | ⟨pre, ⟨hx1, hx2⟩, hj⟩⟩
  · exact ⟨he, .inl ⟨xs, ⟨hx1, hx2⟩, hj⟩⟩
  · exact ⟨he, .inr ⟨pre, ⟨hx1, hx2⟩, hj⟩⟩

theorem kpC_t {B1 B2 : Nat} {A B C : World} (h : KpC B1 B2 A B) (h' : KpC B1 B2 B C) : KpC B1 B2 A C := ⟨h'.1.trans h.1, h'.2.trans h.2⟩

end Go.Proofs.YtiiocjkhjogfkaaDoor
