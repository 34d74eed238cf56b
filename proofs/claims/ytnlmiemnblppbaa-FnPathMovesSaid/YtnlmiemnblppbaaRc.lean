/-
  Where moves lead; two lists of moves side by side.
-/
import Derived.Test.YtnlmiemnblppbaaMv2
namespace Go.Proofs.Ytnlmiemnblppbaa
open Go.RowKit

def mvX (ms : List (Int × Int)) (t : Nat) : Int := ((ms.take t).map Prod.fst).sum
def mvY (ms : List (Int × Int)) (t : Nat) : Int := ((ms.take t).map Prod.snd).sum

theorem mvX_succ (ms : List (Int × Int)) (t : Nat) (h : t < ms.length) (x y : Int) (hm : ms[t] = (x, y)) : mvX ms (t + 1) = mvX ms t + x := by
  unfold mvX
  rw [List.take_succ_eq_append_getElem h, hm]
  simp

theorem mvY_succ (ms : List (Int × Int)) (t : Nat) (h : t < ms.length) (x y : Int) (hm : ms[t] = (x, y)) : mvY ms (t + 1) = mvY ms t + y := by
  unfold mvY
  rw [List.take_succ_eq_append_getElem h, hm]
  simp

theorem mvXY_bd (ms : List (Int × Int)) (h : mvsUpto ms ms.length) (t : Nat) (ht : t ≤ ms.length) : (-(10000000 * t) ≤ mvX ms t ∧ mvX ms t ≤ 10000000 * t) ∧ (-(10000000 * t) ≤ mvY ms t ∧ mvY ms t ≤ 10000000 * t) := by
  induction t with
  | zero => simp [mvX, mvY]
  | succ t ih =>
    have i := ih (by omega)
    have v := h t (by omega) (by omega)
    rw [mvX_succ ms t (by omega) (ms[t]).1 (ms[t]).2 rfl, mvY_succ ms t (by omega) (ms[t]).1 (ms[t]).2 rfl]
    obtain ⟨a, b, c, d⟩ := v
    omega

set_option maxRecDepth 100000 in
set_option maxHeartbeats 1000000 in
theorem reached_ok (v : Value) (ms : List (Int × Int)) (w : World) (hr : Reads w 2 v ms.length (mvCells ms)) (hin : mvsIn ms = true) :
    Calls Try.prog 41 #[v] w fun e w' => e = .returned (.agg #[.int .i64 (mvX ms ms.length), .int .i64 (mvY ms ms.length)]) ∧ Below w.heap.size w w' := by
  obtain ⟨hl, hup⟩ := mvsIn_parts hin
  have Hup := hide hup
  clear hup hin
  obtain ⟨_, hm, A, c, rfl, hc⟩ := hr
  go_enter Try.func41, Try.ntmps41
  go_wp2_with fail
  go_loopw [4] (fun i wr => ∃ t : Nat, t ≤ ms.length ∧ i = .int .i64 t ∧ wr.heap[w.heap.size + 1]? = some (.cells #[.int .i64 (mvX ms t), .int .i64 (mvY ms t)] 31 (0, 0)) ∧ wr.heap[w.heap.size]? = some (.cells #[.int .i64 0, .int .i64 0] 31 (0, 0)) ∧ Below w.heap.size w wr) (fun i _ => ms.length - (intOf i).toNat)
  case atStart => exact ⟨0, by omega, rfl, heap_alloc2_new _ _ _, heap_alloc2_old _ _ _, kept_alloc (kept_new _ _) _⟩
  case round =>
    obtain ⟨t, ht, rfl, hh1, hh0, hb⟩ := hrel
    have c0 : wr.cell? ⟨w.heap.size + 1, 0, none⟩ = some (.int .i64 (mvX ms t)) := by simp [World.cell?, hh1]
    have c1 : wr.cell? ⟨w.heap.size + 1, 1, none⟩ = some (.int .i64 (mvY ms t)) := by simp [World.cell?, hh1]
    have f0 : wr.frozen? ⟨w.heap.size + 1, 0, none⟩ = false := by simp [World.frozen?, hh1]
    have f1 : wr.frozen? ⟨w.heap.size + 1, 1, none⟩ = false := by simp [World.frozen?, hh1]
    by_cases hlt : t < ms.length
    · obtain ⟨b, o, rfl, hbl, hcell⟩ := hc (by omega) (by omega)
      have h1 := (hb.cell (p := ⟨b, o + t * 2, none⟩) hbl).trans ((hcell (t * 2) (by omega)).trans (mvCells_x ms t hlt))
      have h2 : wr.cell? ⟨b, o + t * 2 + 1, none⟩ = _ := (hb.cell (p := ⟨b, o + t * 2 + 1, none⟩) hbl).trans ((hcell (t * 2 + 1) (by omega)).trans (mvCells_y ms t hlt))
      have hsx := mvX_succ ms t hlt (ms[t]).1 (ms[t]).2 rfl
      have hsy := mvY_succ ms t hlt (ms[t]).1 (ms[t]).2 rfl
      have hv := Hup.out t hlt hlt
      have hbd := mvXY_bd ms Hup.out t (by omega)
      clear hcell hc
      generalize ms[t] = p at h1 h2 hsx hsy hv
      obtain ⟨x, y⟩ := p
      obtain ⟨v1, v2, v3, v4⟩ := hv
      dsimp only at h1 h2 hsx hsy v1 v2 v3 v4
      have Hsx := hide hsx
      have Hsy := hide hsy
      have hn1 : (((wr.setCell ⟨w.heap.size + 1, 0, none⟩ (.int .i64 (mvX ms t + x))).setCell ⟨w.heap.size + 1, 1, none⟩ (.int .i64 (mvY ms t + y)))).heap[w.heap.size + 1]? = some (.cells #[.int .i64 (mvX ms t + x), .int .i64 (mvY ms t + y)] 31 (0, 0)) := by
        simp [World.setCell, Array.getElem?_modify, hh1]
      have hn0 : (((wr.setCell ⟨w.heap.size + 1, 0, none⟩ (.int .i64 (mvX ms t + x))).setCell ⟨w.heap.size + 1, 1, none⟩ (.int .i64 (mvY ms t + y)))).heap[w.heap.size]? = some (.cells #[.int .i64 0, .int .i64 0] 31 (0, 0)) := by
        rw [Below.heap_setCell _ _ _ _ (by simp), Below.heap_setCell _ _ _ _ (by simp)]
        exact hh0
      have hkb : Below w.heap.size w ((wr.setCell ⟨w.heap.size + 1, 0, none⟩ (.int .i64 (mvX ms t + x))).setCell ⟨w.heap.size + 1, 1, none⟩ (.int .i64 (mvY ms t + y))) := kept_set (kept_set hb (by simp) _) (by simp) _
      have Hn1 := hide hn1
      have Hn0 := hide hn0
      clear hsx hsy hn1 hn0 hh1 hh0
      generalize mvX ms t = sx at *
      generalize mvY ms t = sy at *
      obtain ⟨⟨b1, b2⟩, b3, b4⟩ := hbd
      have q1 : IntKind.i64.wrap (sx + x) = sx + x := IntWalk.i64_in _ (by omega)
      have q2 : IntKind.i64.wrap (sy + y) = sy + y := IntWalk.i64_in _ (by omega)
      have q3 : (0 : Int) ≤ (t : Int) := by omega
      have q4 : (t : Int) < (ms.length : Int) := by omega
      go_wp2_with fail
      go_still_tail 17, (by kernel_rfl)
      go_wp2_with fail
      go_roundw
      case rel => exact ⟨t + 1, by omega, by go_num, by rw [Hsx.out, Hsy.out]; exact Hn1.out, Hn0.out, hkb.drew⟩
      case measure => simp [intOf]; omega
    · obtain rfl : t = ms.length := by omega
      have d0 : wr.cell? ⟨w.heap.size, 0, none⟩ = some (.int .i64 0) := by simp [World.cell?, hh0]
      have d1 : wr.cell? ⟨w.heap.size, 1, none⟩ = some (.int .i64 0) := by simp [World.cell?, hh0]
      have g0 : wr.frozen? ⟨w.heap.size, 0, none⟩ = false := by simp [World.frozen?, hh0]
      have g1 : wr.frozen? ⟨w.heap.size, 1, none⟩ = false := by simp [World.frozen?, hh0]
      clear hh1 hh0
      go_wp2_with fail
      refine bodyPost_ret (v := .agg #[.int .i64 (mvX ms ms.length), .int .i64 (mvY ms ms.length)]) (by simp [results, Try.results41, go_sem, d0, d1]) rfl ⟨rfl, ?_⟩
      exact kept_set (kept_set hb (Nat.le_refl _) _) (Nat.le_refl _) _

set_option maxRecDepth 100000 in
set_option maxHeartbeats 400000 in
theorem sameMoves_ok (v v' : Value) (ms : List (Int × Int)) (w : World) (hr : Reads w 2 v ms.length (mvCells ms)) (hr' : Reads w 2 v' ms.length (mvCells ms)) :
    Calls Try.prog 15 #[v, v'] w fun e w' => e = .returned (.bool true) ∧ Below w.heap.size w w' := by
  obtain ⟨_, hm, A, c, rfl, hc⟩ := hr
  obtain ⟨_, _, A', c', rfl, hc'⟩ := hr'
  go_enter Try.func15, Try.ntmps15
  go_wp2_with fail
  go_loopw [5] (fun i wr => ∃ t m : Nat, t ≤ ms.length ∧ i = .int .i64 t ∧ wr = w.drewN m) (fun i _ => ms.length - (intOf i).toNat)
  case atStart => exact ⟨0, 0, by omega, rfl, rfl⟩
  case round =>
    obtain ⟨t, m, ht, rfl, rfl⟩ := hrel
    by_cases hlt : t < ms.length
    · obtain ⟨b, o, rfl, hbl, hcell⟩ := hc (by omega) (by omega)
      obtain ⟨b', o', rfl, hbl', hcell'⟩ := hc' (by omega) (by omega)
      have h1 := (hcell (t * 2) (by omega)).trans (mvCells_x ms t hlt)
      have h2 : w.cell? ⟨b, o + t * 2 + 1, none⟩ = _ := (hcell (t * 2 + 1) (by omega)).trans (mvCells_y ms t hlt)
      have h1' := (hcell' (t * 2) (by omega)).trans (mvCells_x ms t hlt)
      have h2' : w.cell? ⟨b', o' + t * 2 + 1, none⟩ = _ := (hcell' (t * 2 + 1) (by omega)).trans (mvCells_y ms t hlt)
      clear hcell hc hcell' hc'
      generalize ms[t] = p at h1 h2 h1' h2'
      obtain ⟨x, y⟩ := p
      dsimp only at h1 h2 h1' h2'
      have q3 : (0 : Int) ≤ (t : Int) := by omega
      have q4 : (t : Int) < (ms.length : Int) := by omega
      go_wp2_with fail
      go_quiet (fail)
      go_wp2_with fail
      go_roundw
      case rel => exact ⟨t + 1, _, by omega, by go_num, rfl⟩
      case measure => simp [intOf]; omega
    · go_wp2_with fail
      go_ret
      exact ⟨rfl, kept_drewN _ _⟩
end Go.Proofs.Ytnlmiemnblppbaa
