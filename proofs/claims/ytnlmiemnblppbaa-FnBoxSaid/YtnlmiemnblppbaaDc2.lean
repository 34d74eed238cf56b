/-
  Cycs that a reader draws.
-/
import Derived.Test.YtnlmiemnblppbaaDc1
import Derived.Test.YtnlmiemnblppbaaRd
namespace Go.Proofs.Ytnlmiemnblppbaa
open Go.RowKit

def DrCy (w : World) (R N : Nat) (e : Ending) (w' : World) : Prop := ∃ c : C8, e = .returned c.val ∧ Rd w' R (N + 12) ∧ w.grownBy w' (some R)

theorem blk_pick {w w' : World} {B R : Nat} {T : TypeId} {c : C8} (h : Blk w B T c) (hg : w.grownBy w' (some R)) (hR : R < B) : Blk w' B T c := blk_grown h hg (by simp; omega)

theorem grown_set {w w' : World} {R : Nat} (h : w.grownBy w' (some R)) {p : Addr} (hp : w.heap.size ≤ p.block) (u : Value) : w.grownBy (w'.setCell p u) (some R) :=
  grown_new h (row := some p.block) ⟨rfl, rfl, rfl, by simp [World.setCell], fun k _ hk => Below.heap_setCell _ _ _ _ (fun e => hk (by rw [e]))⟩ (fun k e => by cases e; exact hp)

theorem grown_set8 {w w' : World} {R : Nat} (h : w.grownBy w' (some R)) {g : Nat} (hp : w.heap.size ≤ g) (c : C8) : w.grownBy (set8w w' g c) (some R) :=
  grown_set (grown_set (grown_set (grown_set (grown_set (grown_set (grown_set (grown_set h hp _) hp _) hp _) hp _) hp _) hp _) hp _) hp _

theorem grown_kept {w w1 w2 : World} {row : Option Nat} (h : w.grownBy w1 row) (hb : Below w1.heap.size w1 w2) : w.grownBy w2 row := grown_trans' h (grown_of_kept hb row)

theorem rd_set {w : World} {R N : Nat} (h : Rd w R N) {p : Addr} (hp : R < p.block) (u : Value) : Rd (w.setCell p u) R N :=
  rd_grown h (row := some p.block) ⟨rfl, rfl, rfl, by simp [World.setCell], fun k _ hk => Below.heap_setCell _ _ _ _ (fun e => hk (by rw [e]))⟩ (fun k e => by cases e; exact hp)

theorem rd_set8 {w : World} {R N : Nat} (h : Rd w R N) {g : Nat} (hp : R < g) (c : C8) : Rd (set8w w g c) R N :=
  rd_set (rd_set (rd_set (rd_set (rd_set (rd_set (rd_set (rd_set h hp _) hp _) hp _) hp _) hp _) hp _) hp _) hp _

set_option maxRecDepth 100000 in
set_option maxHeartbeats 6000000 in
theorem l91Cyc_ok (R N : Nat) (w : World) (hR : Rd w R N) (hN : N ≤ 900000) :
    Calls Try.prog 100 #[.pointer (some ⟨R, 0, none⟩)] w (DrCy w R N) := by
  have hRlt := rd_lt hR
  have h0 := two_new w zero8 zero8 51
  have hR0 := rd_kept hR h0.2.2
  go_enter Try.func100, Try.ntmps100
  go_wp2_with fail
  refine (pick_ok R N 8 _ hR0 (by omega) (by decide)).mono ?_
  rintro e w1 ⟨k, rfl, hk, hR1, hg1⟩
  have hz := blk_pick h0.1 hg1 hRlt
  have ho := blk_pick h0.2.1 hg1 (Nat.lt_succ_of_lt hRlt)
  have hg := grown_trans' (grown_of_kept h0.2.2 _) hg1
  clear h0 hR0 hg1 hR hk
  obtain ⟨r0, r1, r2, r3, r4, r5, r6, r7⟩ := blk_cells hz
  obtain ⟨f0, f1, f2, f3, f4, f5, f6, f7⟩ := blk_frees hz
  obtain ⟨q0, q1, q2, q3, q4, q5, q6, q7⟩ := blk_cells ho
  by_cases k0 : (k : Int) = 0
  · go_wp2_with fail
    refine (pick_ok R (N + 1) 24 _ hR1 (by omega) (by decide)).mono ?_
    rintro e w2 ⟨a, rfl, ha, hR2, hg2⟩
    have hz2 := blk_pick hz hg2 hRlt
    have hg02 := grown_trans' hg hg2
    go_wp2_with fail
    refine (cycRoot_some a w2).mono ?_
    rintro e w3 ⟨x, b, rfl, hb3⟩
    have hz3 := blk_kept hz2 hb3
    have hg03 := grown_kept hg02 hb3
    have hR3 := rd_kept hR2 hb3
    obtain ⟨s0, s1, s2, s3, s4, s5, s6, s7⟩ := blk_cells hz3
    obtain ⟨t0, t1, t2, t3, t4, t5, t6, t7⟩ := blk_frees hz3
    have hlt := blk_lt hz3
    have hG := grown_kept (grown_set8 hg03 (Nat.le_refl _) x) (kept_new _ (.cells x.arr 51))
    have hR5 := rd_kept (rd_set8 hR3 (g := w.heap.size) hRlt x) (kept_new _ (.cells x.arr 51))
    have hZ := blk_alloc (blk_set8 hz3 x) (.cells x.arr 51)
    clear hz hz2 hg hg02 hg03 hR1 hR2 hR3 hz3 hb3 hg2 ha
    rw [val_spell]
    go_wp2_with fail
    change bodyPost _ _ _ _ _ ((set8w w3 w.heap.size x).alloc (.cells x.arr 51))
    generalize (set8w w3 w.heap.size x).alloc (.cells x.arr 51) = wz at *
    obtain ⟨z0, z1, z2, z3, z4, z5, z6, z7⟩ := blk_cells hZ
    exact bodyPost_ret (v := x.val) (by simp [results, Try.results100, go_sem, val_spell, z0, z1, z2, z3, z4, z5, z6, z7]) rfl ⟨_, rfl, rd_more hR5 (by omega), hG⟩
  by_cases k1 : (k : Int) = 1
  · go_wp2_with fail
    refine (pick_ok R (N + 1) 9 _ hR1 (by omega) (by decide)).mono ?_
    rintro e w2 ⟨a, rfl, ha, hR2, hg2⟩
    have hz2 := blk_pick hz hg2 hRlt
    have hg02 := grown_trans' hg hg2
    go_wp2_with fail
    refine (pick_ok R (N + 1 + 1) 9 _ hR2 (by omega) (by decide)).mono ?_
    rintro e w3 ⟨b, rfl, hb, hR3, hg3⟩
    have hz3 := blk_pick hz2 hg3 hRlt
    have hg03 := grown_trans' hg02 hg3
    have ha9 : a < 9 := by omega
    have hb9 : b < 9 := by omega
    clear ha hb
    go_wp2_with fail
    refine (l2Gauss_ok _ _ w3).mono ?_
    rintro e w4 ⟨rfl, hb4⟩
    have hz4 := blk_kept hz3 hb4
    have hg04 := grown_kept hg03 hb4
    have hR4 := rd_kept hR3 hb4
    generalize (⟨(a : Int) - 4, 0, 0, 0, 0, 0, (b : Int) - 4, 0⟩ : C8) = x
    obtain ⟨s0, s1, s2, s3, s4, s5, s6, s7⟩ := blk_cells hz4
    obtain ⟨t0, t1, t2, t3, t4, t5, t6, t7⟩ := blk_frees hz4
    have hlt := blk_lt hz4
    have hG := grown_set8 hg04 (Nat.le_refl _) x
    have hR5 := rd_set8 hR4 (g := w.heap.size) hRlt x
    have hZ := blk_set8 hz4 x
    clear hz hz2 hg hg02 hg03 hR1 hR2 hR3 hR4 hg04 hz3 hz4 hb4 hg2 hg3
    rw [val_spell]
    go_wp2_with fail
    change bodyPost _ _ _ _ _ (set8w w4 w.heap.size x)
    generalize set8w w4 w.heap.size x = wz at *
    obtain ⟨z0, z1, z2, z3, z4, z5, z6, z7⟩ := blk_cells hZ
    exact bodyPost_ret (v := x.val) (by simp [results, Try.results100, go_sem, val_spell, z0, z1, z2, z3, z4, z5, z6, z7]) rfl ⟨_, rfl, rd_more hR5 (by omega), hG⟩
  by_cases k2 : (k : Int) = 2
  · have hG := grown_set8 hg (Nat.le_refl _) zero8
    have hR5 := rd_set8 hR1 (g := w.heap.size) hRlt zero8
    have hZ := blk_set8 hz zero8
    clear hz hg hR1
    go_wp2_with fail
    change bodyPost _ _ _ _ _ (set8w w1 w.heap.size zero8)
    generalize set8w w1 w.heap.size zero8 = wz at *
    obtain ⟨z0, z1, z2, z3, z4, z5, z6, z7⟩ := blk_cells hZ
    exact bodyPost_ret (v := zero8.val) (by simp [results, Try.results100, go_sem, val_spell, z0, z1, z2, z3, z4, z5, z6, z7]) rfl ⟨_, rfl, rd_more hR5 (by omega), hG⟩
  go_wp2_with fail
  refine (pick_ok R (N + 1) 3 _ hR1 (by omega) (by decide)).mono ?_
  rintro e w2 ⟨a, rfl, ha, hR2, hg2⟩
  have hz2 := blk_pick hz hg2 hRlt
  have ho2 := blk_pick ho hg2 (Nat.lt_succ_of_lt hRlt)
  have hg02 := grown_trans' hg hg2
  have ha3 : a < 3 := by omega
  clear ha hz ho hg hg2 hR1 q0 q1 q2 q3 q4 q5 q6 q7 r0 r1 r2 r3 r4 r5 r6 r7 f0 f1 f2 f3 f4 f5 f6 f7
  go_wp2_with fail
  go_loopw [7] (fun i wr => ∃ (t : Nat) (d : C8), t ≤ a + 1 ∧ i = .int .i64 t ∧ Blk wr w.heap.size 51 zero8 ∧ Blk wr (w.heap.size + 1) 51 d ∧ Rd wr R (N + 2 + 2 * t) ∧ w.grownBy wr (some R)) (fun i _ => a + 1 - (intOf i).toNat)
  case atStart => exact ⟨0, zero8, by omega, rfl, hz2, ho2, hR2, hg02⟩
  case round =>
    obtain ⟨t, d, ht, rfl, hz, ho, hRr, hg⟩ := hrel
    clear hz2 ho2 hR2 hg02
    by_cases hlt : t < a + 1
    · have hlt' : (t : Int) < 1 + (a : Int) := by omega
      go_wp2_with fail
      refine (pick_ok R _ 8 _ hRr (by omega) (by decide)).mono ?_
      rintro e w3 ⟨b, rfl, hb, hR3, hg3⟩
      have hz3 := blk_pick hz hg3 hRlt
      have ho3 := blk_pick ho hg3 (Nat.lt_succ_of_lt hRlt)
      have hg03 := grown_trans' hg hg3
      have hb8 : b < 8 := by omega
      go_wp2_with fail
      refine (pick_ok R _ 9 _ hR3 (by omega) (by decide)).mono ?_
      rintro e w4 ⟨c, rfl, hc, hR4, hg4⟩
      have hz4 := blk_pick hz3 hg4 hRlt
      have ho4 := blk_pick ho3 hg4 (Nat.lt_succ_of_lt hRlt)
      have hg04 := grown_trans' hg03 hg4
      have hc9 : c < 9 := by omega
      have g1 := blk_cell ho4 b hb8
      have g2 := blk_free ho4 b
      generalize d.get b = y at g1
      have hz5 := blk_other hz4 b (.int .i64 ((c : Int) - 4)) (show w.heap.size ≠ w.heap.size + 1 by omega)
      have ho5 := blk_set ho4 b hb8 ((c : Int) - 4)
      have hg05 := grown_set hg04 (p := ⟨w.heap.size + 1, b, none⟩) (by simp) (.int .i64 ((c : Int) - 4))
      have hR5 := rd_set hR4 (p := ⟨w.heap.size + 1, b, none⟩) (Nat.lt_succ_of_lt hRlt) (.int .i64 ((c : Int) - 4))
      clear hz ho hRr hg hb hR3 hg3 hz3 ho3 hg03 hc hR4 hg4 hz4 ho4 hg04
      go_wp2_with fail
      go_roundw
      case rel => exact ⟨t + 1, _, by omega, by go_num, hz5, ho5, rd_more hR5 (by omega), hg05⟩
      case measure => simp [intOf]; omega
    · have hlt' : ¬ (t : Int) < 1 + (a : Int) := by omega
      go_wp2_with fail
      refine (pick_ok R _ 30 _ hRr (by omega) (by decide)).mono ?_
      rintro e w3 ⟨b, rfl, hb, hR3, hg3⟩
      have hz3 := blk_pick hz hg3 hRlt
      have ho3 := blk_pick ho hg3 (Nat.lt_succ_of_lt hRlt)
      have hg03 := grown_trans' hg hg3
      clear hz ho hRr hg hb hg3
      obtain ⟨r0, r1, r2, r3, r4, r5, r6, r7⟩ := blk_cells hz3
      obtain ⟨f0, f1, f2, f3, f4, f5, f6, f7⟩ := blk_frees hz3
      obtain ⟨q0, q1, q2, q3, q4, q5, q6, q7⟩ := blk_cells ho3
      obtain ⟨j0, j1, j2, j3, j4, j5, j6, j7⟩ := blk_frees ho3
      by_cases b0 : (b : Int) = 0
      · have hz5 := blk_other hz3 0 (.int .i64 1000001) (show w.heap.size ≠ w.heap.size + 1 by omega)
        have hg05 := grown_set hg03 (p := ⟨w.heap.size + 1, 0, none⟩) (by simp) (.int .i64 1000001)
        have hR5 := rd_set hR3 (p := ⟨w.heap.size + 1, 0, none⟩) (Nat.lt_succ_of_lt hRlt) (.int .i64 1000001)
        have hG := grown_set8 hg05 (Nat.le_refl _) (d.set 0 1000001)
        have hR6 := rd_set8 hR5 (g := w.heap.size) hRlt (d.set 0 1000001)
        have hZ := blk_set8 hz5 (d.set 0 1000001)
        have HG := hide hG
        have HR6 := hide hR6
        have HZ := hide hZ
        clear hz3 ho3 hR3 hg03 hz5 hg05 hR5 hG hR6 hZ
        go_wp2_with fail
        have hG := HG.out
        have hR6 := HR6.out
        have hZ := HZ.out
        clear HG HR6 HZ
        change bodyPost _ _ _ _ _ (set8w (w3.setCell ⟨w.heap.size + 1, 0, none⟩ (.int .i64 1000001)) w.heap.size (d.set 0 1000001))
        generalize set8w (w3.setCell ⟨w.heap.size + 1, 0, none⟩ (.int .i64 1000001)) w.heap.size (d.set 0 1000001) = wz at hG hR6 hZ ⊢
        generalize d.set 0 1000001 = x at hZ
        obtain ⟨z0, z1, z2, z3, z4, z5, z6, z7⟩ := blk_cells hZ
        exact bodyPost_ret (v := x.val) (by simp [results, Try.results100, go_sem, val_spell, z0, z1, z2, z3, z4, z5, z6, z7]) rfl ⟨_, rfl, rd_more hR6 (by omega), hG⟩
      by_cases b1 : (b : Int) = 1
      · have hz5 := blk_other hz3 7 (.int .i64 1000000) (show w.heap.size ≠ w.heap.size + 1 by omega)
        have hg05 := grown_set hg03 (p := ⟨w.heap.size + 1, 7, none⟩) (by simp) (.int .i64 1000000)
        have hR5 := rd_set hR3 (p := ⟨w.heap.size + 1, 7, none⟩) (Nat.lt_succ_of_lt hRlt) (.int .i64 1000000)
        have hG := grown_set8 hg05 (Nat.le_refl _) (d.set 7 1000000)
        have hR6 := rd_set8 hR5 (g := w.heap.size) hRlt (d.set 7 1000000)
        have hZ := blk_set8 hz5 (d.set 7 1000000)
        have HG := hide hG
        have HR6 := hide hR6
        have HZ := hide hZ
        clear hz3 ho3 hR3 hg03 hz5 hg05 hR5 hG hR6 hZ
        go_wp2_with fail
        have hG := HG.out
        have hR6 := HR6.out
        have hZ := HZ.out
        clear HG HR6 HZ
        change bodyPost _ _ _ _ _ (set8w (w3.setCell ⟨w.heap.size + 1, 7, none⟩ (.int .i64 1000000)) w.heap.size (d.set 7 1000000))
        generalize set8w (w3.setCell ⟨w.heap.size + 1, 7, none⟩ (.int .i64 1000000)) w.heap.size (d.set 7 1000000) = wz at hG hR6 hZ ⊢
        generalize d.set 7 1000000 = x at hZ
        obtain ⟨z0, z1, z2, z3, z4, z5, z6, z7⟩ := blk_cells hZ
        exact bodyPost_ret (v := x.val) (by simp [results, Try.results100, go_sem, val_spell, z0, z1, z2, z3, z4, z5, z6, z7]) rfl ⟨_, rfl, rd_more hR6 (by omega), hG⟩
      have hG := grown_set8 hg03 (Nat.le_refl _) d
      have hR6 := rd_set8 hR3 (g := w.heap.size) hRlt d
      have HG := hide hG
      have HR6 := hide hR6
      have HZ := hide hz3
      clear hz3 ho3 hR3 hg03 hG hR6
      go_wp2_with fail
      have hG := HG.out
      have hR6 := HR6.out
      have hZ := blk_set8 HZ.out d
      clear HG HR6 HZ
      change bodyPost _ _ _ _ _ (set8w w3 w.heap.size d)
      generalize set8w w3 w.heap.size d = wz at hG hR6 hZ ⊢
      obtain ⟨z0, z1, z2, z3, z4, z5, z6, z7⟩ := blk_cells hZ
      exact bodyPost_ret (v := d.val) (by simp [results, Try.results100, go_sem, val_spell, z0, z1, z2, z3, z4, z5, z6, z7]) rfl ⟨_, rfl, rd_more hR6 (by omega), hG⟩
end Go.Proofs.Ytnlmiemnblppbaa
