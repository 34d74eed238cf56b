/-
  The reader of a code: l6Open lays it, pick reads a number below n and moves on by one.
-/
import Derived.Test.YtnlmiemnblppbaaRows
import Derived.Test.YtnlmiemnblppbaaBase
import Derived.Deep.QuietTactic
import Derived.BigQuiet
namespace Go.Proofs.Ytnlmiemnblppbaa
open Go.RowKit

/-- Block R is a reader that has been asked at most N times; the bytes that it reads lie elsewhere. -/
def Rd (w : World) (R N : Nat) : Prop :=
  ∃ (A : Option Addr) (c p : Nat) (bs : List Int), w.heap[R]? = some (.cells #[.slice A bs.length c, .int .i64 p] 95 (0, 0)) ∧ p ≤ N ∧ Reads w 1 (.slice A bs.length c) bs.length (bs.map (Value.int .u8)) ∧
    (0 < bs.length → ∀ a, A = some a → a.block < R) ∧ bs.length ≤ 2000 ∧ ∀ b ∈ bs, 0 ≤ b ∧ b < 256

theorem rd_more {w : World} {R N N' : Nat} (h : Rd w R N) (hN : N ≤ N') : Rd w R N' := by
  obtain ⟨A, c, p, bs, h1, h2, h3⟩ := h
  exact ⟨A, c, p, bs, h1, Nat.le_trans h2 hN, h3⟩

theorem rd_lt {w : World} {R N : Nat} (h : Rd w R N) : R < w.heap.size := by
  obtain ⟨A, c, p, bs, h1, _⟩ := h
  exact lt_of_block h1

theorem rd_kept {w w' : World} {R N : Nat} (h : Rd w R N) (hk : Below w.heap.size w w') : Rd w' R N := by
  obtain ⟨A, c, p, bs, h1, h2, h3, h4⟩ := h
  exact ⟨A, c, p, bs, (hk.block R (lt_of_block h1)).trans h1, h2, reads_kept h3 hk, h4⟩

theorem rd_grown {w w' : World} {R N : Nat} {row : Option Nat} (h : Rd w R N) (hg : w.grownBy w' row) (hr : ∀ k, row = some k → R < k) : Rd w' R N := by
  obtain ⟨A, c, p, bs, h1, h2, h3, h4, h5⟩ := h
  refine ⟨A, c, p, bs, (hg.block R (lt_of_block h1) (fun e => by have := hr R e.symm; omega)).trans h1, h2, reads_grown h3 hg (fun h0 => ?_), h4, h5⟩
  cases A with
  | none => exact .inl rfl
  | some a =>
    refine .inr fun e => ?_
    simp only [Value.ownBlock] at e
    have h6 := hr _ e.symm
    have h7 := h4 h0 a rfl
    omega

/-- Writes to blocks that are new since w count as none. -/
theorem grown_new {w w1 w2 : World} {r row : Option Nat} (h : w.grownBy w1 r) (hg : w1.grownBy w2 row) (hr : ∀ k, row = some k → w.heap.size ≤ k) : w.grownBy w2 r :=
  ⟨hg.os.trans h.os, hg.tape.trans h.tape, hg.output.trans h.output, Nat.le_trans h.size hg.size, fun k hk hne => (hg.block k (Nat.lt_of_lt_of_le hk h.size) (fun e => by have := hr k e.symm; omega)).trans (h.block k hk hne)⟩

theorem kept_of_new {w w1 w2 : World} {R : Nat} (h : Below w.heap.size w w1) (hg : w1.grownBy w2 (some R)) (hR : w.heap.size ≤ R) : Below w.heap.size w w2 :=
  kept_grown h hg (fun k e => by cases e; exact hR)

def PickPost (w : World) (R N : Nat) (n : Int) (e : Ending) (w' : World) : Prop :=
  ∃ k : Nat, e = .returned (.int .i64 k) ∧ ((k : Int) < n ∨ k = 0) ∧ Rd w' R (N + 1) ∧ w.grownBy w' (some R)

theorem ofInt_nat (a : Nat) (ha : a < 9223372036854775808) : (BitVec.ofInt 64 (a : Int)).toNat = a := by
  rw [BitVec.ofInt_natCast, BitVec.toNat_ofNat]; exact Nat.mod_eq_of_lt (by omega)

theorem xor_nat (a b : Nat) (ha : a < 9223372036854775808) (hb : b < 9223372036854775808) : bits .xor .i64 (a : Int) (b : Int) = ((a ^^^ b : Nat) : Int) := by
  have hx : a ^^^ b < 2 ^ 63 := Nat.xor_lt_two_pow (by omega) (by omega)
  show IntKind.i64.wrap ((BitVec.ofInt 64 (a : Int) ^^^ BitVec.ofInt 64 (b : Int)).toNat : Int) = _
  rw [BitVec.toNat_xor, ofInt_nat a ha, ofInt_nat b hb, IntKind.wrap_i64]
  omega

theorem mixed (x n : Int) (h0 : 0 ≤ x) (h1 : x ≤ 1000000000) (hn : 1 ≤ n) : ∃ k : Nat, (bits BinOp.xor IntKind.i64 x (x / 64)).tmod n = k ∧ (k : Int) < n := by
  obtain ⟨a, rfl⟩ := Int.eq_ofNat_of_zero_le h0
  have e : bits BinOp.xor IntKind.i64 (a : Int) ((a : Int) / 64) = ((a ^^^ (a / 64) : Nat) : Int) := by
    rw [← xor_nat a (a / 64) (by omega) (by omega)]
    rfl
  rw [e, Int.tmod_eq_emod_of_nonneg (by omega)]
  have h3 : 0 ≤ ((a ^^^ (a / 64) : Nat) : Int) % n := Int.emod_nonneg _ (by omega)
  have h4 : ((a ^^^ (a / 64) : Nat) : Int) % n < n := Int.emod_lt_of_pos _ (by omega)
  exact ⟨(((a ^^^ (a / 64) : Nat) : Int) % n).toNat, by omega, by omega⟩

set_option maxHeartbeats 1000000 in
theorem pick_ok (R N : Nat) (n : Int) (w : World) (hR : Rd w R N) (hN : N ≤ 1000000) (hn : n ≤ 1000000000) :
    Calls Try.prog 44 #[.pointer (some ⟨R, 0, none⟩), .int .i64 n] w (PickPost w R N n) := by
  obtain ⟨A, c, p, bs, h1, h2, h3, h4, h5, h6⟩ := hR
  have c0 : w.cell? ⟨R, 0, none⟩ = some (.slice A bs.length c) := by simp [World.cell?, h1]
  have c1 : w.cell? ⟨R, 1, none⟩ = some (.int .i64 p) := by simp [World.cell?, h1]
  have f0 : w.frozen? ⟨R, 0, none⟩ = false := by simp [World.frozen?, h1]
  have f1 : w.frozen? ⟨R, 1, none⟩ = false := by simp [World.frozen?, h1]
  -- the world behind the first statement
  have hw1 : (w.setCell ⟨R, 1, none⟩ (.int .i64 ((p : Int) + 1))).heap[R]? = some (.cells #[.slice A bs.length c, .int .i64 ((p : Int) + 1)] 95 (0, 0)) := by
    simp [World.setCell, Array.getElem?_modify, h1]
  have hg1 : w.grownBy (w.setCell ⟨R, 1, none⟩ (.int .i64 ((p : Int) + 1))) (some R) :=
    ⟨rfl, rfl, rfl, by simp [World.setCell], fun k _ hk => Below.heap_setCell _ _ _ _ (fun e => hk (by rw [e]))⟩
  have hr1 : Reads (w.setCell ⟨R, 1, none⟩ (.int .i64 ((p : Int) + 1))) 1 (.slice A bs.length c) bs.length (bs.map (Value.int .u8)) :=
    reads_grown h3 hg1 (fun h0 => by cases A with | none => exact .inl rfl | some a => exact .inr (by have := h4 h0 a rfl; simp only [Value.ownBlock, ne_eq, Option.some.injEq]; omega))
  have hfin : ∀ (k m : Nat), ((k : Int) < n ∨ k = 0) → PickPost w R N n (.returned (.int .i64 k)) ((w.setCell ⟨R, 1, none⟩ (.int .i64 ((p : Int) + 1))).drewN m) := by
    intro k m hk
    refine ⟨k, rfl, hk, ⟨A, c, p + 1, bs, by rw [Int.natCast_add]; exact hw1, by omega, ?_, h4, h5, h6⟩, ?_⟩
    · exact reads_kept hr1 (kept_drewN _ m)
    · exact grown_trans' hg1 (grown_of_kept (kept_drewN _ m) _)
  have Hfin := hide hfin
  clear hfin h1 hw1 hg1 h3
  go_enter Try.func44, Try.ntmps44
  by_cases hn1 : n < 1
  · go_wp2_with fail
    go_ret
    exact Hfin.out 0 0 (.inr rfl)
  by_cases hl : bs.length = 0
  · have hl2 : ((bs.length : Int) == 0) = true := by simp [hl]
    clear hl
    go_wp2_with fail
    go_ret
    exact Hfin.out 0 0 (.inr rfl)
  have hl2 : ((bs.length : Int) == 0) = false := beq_eq_false_iff_ne.2 (by omega)
  obtain ⟨_, _, A', c', he, hc⟩ := hr1
  injection he with e1 e2 e3
  subst e1; subst e3
  obtain ⟨b, o, rfl, hb, hcell⟩ := hc (by omega) (by omega)
  have hbR : ¬ b = R := Nat.ne_of_lt (h4 (by omega) _ rfl)
  clear hc h4
  by_cases hp : p < bs.length
  · obtain ⟨z, hz, q1, q2⟩ : ∃ z, bs[p] = z ∧ 0 ≤ z ∧ z < 256 := ⟨_, rfl, h6 bs[p] (List.getElem_mem hp)⟩
    have hcp : w.cell? ⟨b, o + p, none⟩ = some (.int .u8 z) := by
      have e := hcell p (by omega)
      rw [World.cell?_setCell_other _ _ _ _ (fun e => hbR (by injection e with e1; exact e1.symm))] at e
      rw [e]; simp [hp, hz]
    have q3 : 0 ≤ z % n := Int.emod_nonneg _ (by omega)
    have q4 : z % n < n := Int.emod_lt_of_pos _ (by omega)
    have q5 := Hfin.out (z % n).toNat 0 (.inl (by omega))
    rw [Int.toNat_of_nonneg q3] at q5
    have Q5 := hide q5
    clear q5 hcell hz h6
    go_wp2_with fail
    go_ret
    exact Q5.out
  · have hp1 : p % bs.length < bs.length := Nat.mod_lt _ (by omega)
    have hp2 : (p * 7 + 3) % bs.length < bs.length := Nat.mod_lt _ (by omega)
    obtain ⟨x, hx, x1, x2⟩ : ∃ x, bs[p % bs.length] = x ∧ 0 ≤ x ∧ x < 256 := ⟨_, rfl, h6 _ (List.getElem_mem hp1)⟩
    obtain ⟨y, hy, y1, y2⟩ : ∃ y, bs[(p * 7 + 3) % bs.length] = y ∧ 0 ≤ y ∧ y < 256 := ⟨_, rfl, h6 _ (List.getElem_mem hp2)⟩
    have hcx : w.cell? ⟨b, o + p % bs.length, none⟩ = some (.int .u8 x) := by
      have e := hcell _ (by omega : p % bs.length < bs.length * 1)
      rw [World.cell?_setCell_other _ _ _ _ (fun e => hbR (by injection e with e1; exact e1.symm))] at e
      rw [e]; simp [hp1, hx]
    have hcy : w.cell? ⟨b, o + (p * 7 + 3) % bs.length, none⟩ = some (.int .u8 y) := by
      have e := hcell _ (by omega : (p * 7 + 3) % bs.length < bs.length * 1)
      rw [World.cell?_setCell_other _ _ _ _ (fun e => hbR (by injection e with e1; exact e1.symm))] at e
      rw [e]; simp [hp2, hy]
    have i1 : (0 : Int) ≤ ((p : Int) * 7 + 3) % (bs.length : Int) := Int.emod_nonneg _ (by omega)
    have i2 : ((p : Int) * 7 + 3) % (bs.length : Int) < (bs.length : Int) := Int.emod_lt_of_pos _ (by omega)
    have i3 : (((p : Int) * 7 + 3) % (bs.length : Int)).toNat = (p * 7 + 3) % bs.length := by
      rw [show ((p : Int) * 7 + 3) = ((p * 7 + 3 : Nat) : Int) from by omega, ← Int.natCast_emod, Int.toNat_natCast]
    have j1 : (0 : Int) ≤ (p : Int) / (bs.length : Int) := Int.ediv_nonneg (by omega) (by omega)
    have j2 : (p : Int) / (bs.length : Int) ≤ (p : Int) := Int.ediv_le_self _ (by omega)
    obtain ⟨k, hk1, hk2⟩ := mixed (x * 131 + y * 1117 + (p : Int) * 29 + (p : Int) / (bs.length : Int) * 53) n (by omega) (by omega) (by omega)
    have Hk1 := hide hk1
    clear hcell hx hy h6 hk1
    go_wp2_with fail
    go_quiet (fail)
    go_wp2_with fail
    go_ret
    have Hf := Hfin.out k ‹Nat› (.inl hk2)
    rw [← Hk1.out] at Hf
    exact Hf

def OpenPost (w : World) (e : Ending) (w' : World) : Prop :=
  ∃ R, e = .returned (.pointer (some ⟨R, 0, none⟩)) ∧ w.heap.size ≤ R ∧ Rd w' R 0 ∧ Below w.heap.size w w'

theorem rd_new (w : World) (A : Option Addr) (c : Nat) (bs : List Int) (hr : Reads w 1 (.slice A bs.length c) bs.length (bs.map (Value.int .u8))) (hA : 0 < bs.length → ∀ a, A = some a → a.block < w.heap.size) (hl : bs.length ≤ 2000) (hb : ∀ b ∈ bs, 0 ≤ b ∧ b < 256) :
    OpenPost w (.returned (.pointer (some ⟨w.heap.size, 0, none⟩))) (w.alloc (.cells #[.slice A bs.length c, .int .i64 0] 95)) :=
  ⟨w.heap.size, rfl, Nat.le_refl _, ⟨A, c, 0, bs, heap_alloc_new w _, Nat.le_refl _, reads_kept hr (kept_new w _), hA, hl, hb⟩, kept_new w _⟩

set_option maxHeartbeats 400000 in
theorem l6Open_ok (A : Option Addr) (c : Nat) (bs : List Int) (w : World) (hr : Reads w 1 (.slice A bs.length c) bs.length (bs.map (Value.int .u8))) (hA : 0 < bs.length → ∀ a, A = some a → a.block < w.heap.size) (hcap : bs.length ≤ c) (hb : ∀ b ∈ bs, 0 ≤ b ∧ b < 256) :
    Calls Try.prog 42 #[.slice A bs.length c] w (OpenPost w) := by
  by_cases hl : bs.length ≤ 2000
  · have H := hide (rd_new w A c bs hr hA hl hb)
    clear hr hA hb
    go_enter Try.func42, Try.ntmps42
    go_wp2_with fail
    go_ret
    exact H.out
  · have e2 : (bs.take 2000).length = 2000 := by simp; omega
    obtain ⟨h1, h2, A', c', he, h3⟩ := hr
    injection he with q1 q2 q3
    subst q1; subst q3
    obtain ⟨b, o, rfl, hbl, hcell⟩ := h3 (by omega) (by omega)
    have hr2 : Reads w 1 (.slice (some ⟨b, o, none⟩) (bs.take 2000).length c) (bs.take 2000).length ((bs.take 2000).map (Value.int .u8)) := by
      refine ⟨by simp, by omega, _, _, rfl, fun _ _ => ⟨b, o, rfl, hbl, fun j hj => ?_⟩⟩
      rw [hcell j (by omega)]
      simp only [List.getElem?_map, List.getElem?_take]
      rw [if_pos (by omega)]
    have H := hide (rd_new w _ c (bs.take 2000) hr2 (fun _ => hA (by omega)) (by omega) (fun x hx => hb x (List.mem_of_mem_take hx)))
    rw [e2] at H
    clear hA hb hcell h3 hr2 e2
    go_enter Try.func42, Try.ntmps42
    go_wp2_with fail
    go_ret
    exact H.out
end Go.Proofs.Ytnlmiemnblppbaa
