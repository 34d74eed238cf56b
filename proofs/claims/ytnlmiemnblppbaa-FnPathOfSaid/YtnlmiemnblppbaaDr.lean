/-
  Rows that a reader draws: some list of Cycs in a slice of its own.
-/
import Derived.Test.YtnlmiemnblppbaaDc2
import Derived.Test.YtnlmiemnblppbaaOpenB
import Derived.Test.YtnlmiemnblppbaaCEq
namespace Go.Proofs.Ytnlmiemnblppbaa
open Go.RowKit

def DrN (lo hi : Nat) (w : World) (R N : Nat) (e : Ending) (w' : World) : Prop := ∃ n : Nat, e = .returned (.int .i64 n) ∧ lo ≤ n ∧ n ≤ hi ∧ Rd w' R (N + 1) ∧ w.grownBy w' (some R)

def lens : List Nat := [1, 2, 3, 4, 6, 8, 2, 3, 4, 12]

theorem lens_at (k : Nat) (h : k < 10) : ∃ n : Nat, lens[k]? = some n ∧ 1 ≤ n ∧ n ≤ 12 := by
  match k, h with
  | 0, _ => exact ⟨1, rfl, by omega, by omega⟩ | 1, _ => exact ⟨2, rfl, by omega, by omega⟩ | 2, _ => exact ⟨3, rfl, by omega, by omega⟩ | 3, _ => exact ⟨4, rfl, by omega, by omega⟩ | 4, _ => exact ⟨6, rfl, by omega, by omega⟩
  | 5, _ => exact ⟨8, rfl, by omega, by omega⟩ | 6, _ => exact ⟨2, rfl, by omega, by omega⟩ | 7, _ => exact ⟨3, rfl, by omega, by omega⟩ | 8, _ => exact ⟨4, rfl, by omega, by omega⟩ | 9, _ => exact ⟨12, rfl, by omega, by omega⟩

set_option maxRecDepth 100000 in
set_option maxHeartbeats 1000000 in
theorem l91Length_ok (R N : Nat) (w : World) (hR : Rd w R N) (hN : N ≤ 900000) :
    Calls Try.prog 90 #[.pointer (some ⟨R, 0, none⟩)] w (DrN 1 12 w R N) := by
  have hRlt := rd_lt hR
  have hlen : ∀ k, k < 10 → (w.alloc (.cells #[.int .i64 1, .int .i64 2, .int .i64 3, .int .i64 4, .int .i64 6, .int .i64 8, .int .i64 2, .int .i64 3, .int .i64 4, .int .i64 12] 3)).cell? ⟨w.heap.size, k, none⟩ = (lens[k]?).map fun n : Nat => Value.int .i64 n := by
    intro k hk
    rw [cell_of_row _ _ _ _ _ _ (heap_alloc_new w _)]
    match k, hk with
    | 0, _ => rfl | 1, _ => rfl | 2, _ => rfl | 3, _ => rfl | 4, _ => rfl | 5, _ => rfl | 6, _ => rfl | 7, _ => rfl | 8, _ => rfl | 9, _ => rfl
  have Hlen := hide hlen
  have hb0 := kept_new w (.cells #[.int .i64 1, .int .i64 2, .int .i64 3, .int .i64 4, .int .i64 6, .int .i64 8, .int .i64 2, .int .i64 3, .int .i64 4, .int .i64 12] 3)
  have hR0 := rd_kept hR hb0
  clear hlen
  go_enter Try.func90, Try.ntmps90
  go_wp2_with fail
  refine (pick_ok R N 10 _ hR0 (by omega) (by decide)).mono ?_
  rintro e w1 ⟨k, rfl, hk, hR1, hg1⟩
  have hk10 : k < 10 := by omega
  obtain ⟨n, hn, hn1, hn2⟩ := lens_at k hk10
  have hc := Hlen.out k hk10
  rw [hn] at hc
  have hc1 := hg1.cell hc (by simp; omega)
  have hg := grown_trans' (grown_of_kept hb0 _) hg1
  clear hc hn hk hg1 hb0 hR0
  go_wp2_with fail
  go_ret
  exact ⟨n, rfl, hn1, hn2, hR1, hg⟩

/-- A drawn list of Cycs. -/
def DrCs (K M : Nat) (w : World) (R N : Nat) (e : Ending) (w' : World) : Prop :=
  ∃ v cs, e = .returned v ∧ w'.ownsRow w.heap.size 51 8 v cs.length (cyCells cs) ∧ cs.length ≤ K ∧ Rd w' R (N + M) ∧ w.grownBy w' (some R)

theorem rd_apart {w w' : World} {R N : Nat} {e : TypeId} {s n : Nat} {v : Value} {xs : List Value} (hR : Rd w R N) (h : w'.ownsRow w.heap.size e s v n xs) : v.ownBlock = none ∨ v.ownBlock ≠ some R := by
  cases hv : v.ownBlock with
  | none => exact .inl rfl
  | some k => exact .inr fun e => by cases e; have := (h.lt _ hv).1; have := rd_lt hR; omega

theorem cyCells_app (a b : List C8) : cyCells (a ++ b) = cyCells a ++ cyCells b := by simp [cyCells]
theorem cyCells_one1 (c : C8) : cyCells [c] = c.cells := by simp [cyCells]

set_option maxRecDepth 100000 in
set_option maxHeartbeats 2000000 in
theorem l91Row_ok (R N n : Nat) (w : World) (hR : Rd w R N) (hN : N ≤ 800000) (hn : n ≤ 100) :
    Calls Try.prog 89 #[.pointer (some ⟨R, 0, none⟩), .int .i64 n] w (DrCs (n + 1) (12 * n + 1) w R N) := by
  obtain ⟨i0, hi, hz0, hz1, hz2⟩ := info_parts Try.infoCy
  have hRlt := rd_lt hR
  go_enter Try.func89, Try.ntmps89
  go_wp2_with fail
  have hb0 : Below w.heap.size w (w.alloc (.cells #[] 51)) := kept_new _ _
  have ho0 : (w.alloc (.cells #[] 51)).ownsRow w.heap.size 51 8 (.slice (some ⟨w.heap.size, 0, none⟩) 0 0) 0 [] := by
    simpa using World.ownsRow_lit (base := w.heap.size) (e := 51) (size := 8) w #[] 0 (Nat.le_refl _) (by decide) (by simp)
  go_loopw [5, 6] (fun v i wr => ∃ (t : Nat) (cs : List C8), t ≤ n ∧ i = .int .i64 t ∧ wr.ownsRow w.heap.size 51 8 v cs.length (cyCells cs) ∧ cs.length = t ∧ Rd wr R (N + 12 * t) ∧ w.grownBy wr (some R)) (fun _ i _ => n - (intOf i).toNat)
  case atStart => exact ⟨0, [], by omega, rfl, ho0, by simp, rd_kept hR hb0, grown_of_kept hb0 _⟩
  case round =>
    obtain ⟨t, cs, ht, rfl, ho, hl, hRr, hgr⟩ := hrel
    clear ho0 hb0
    by_cases hlt : t < n
    · have hlt' : (t : Int) < (n : Int) := by omega
      go_wp2_with fail
      refine (l91Cyc_ok R _ _ hRr (by omega)).mono ?_
      rintro e w2 ⟨x, rfl, hR2, hg2⟩
      have ho2 := ho.kept hg2 (rd_apart hR ho)
      have hg02 := grown_trans' hgr hg2
      have hsz2 := hg02.size
      clear ho hg2 hgr hRr
      rw [val_spell]
      go_wp2_with (at_builtin; refine wpList_append_one w2 rfl _ _ 39 rfl w.heap.size 51 i0 _ 8 64 Try.underlying39 hi hz0 hz1 hz2 rfl (by decide) _ _ _ rfl ho2 x.cells _ _ rfl rfl (by simp [Value.oneCell', C8.cells]) (by omega) (by decide) hsz2 rfl (by simp) ?_)
      intro g6 cap6 w6 ho6 hg6 hr6
      have hR6 := rd_grown hR2 hg6 (fun k hk => Nat.lt_of_lt_of_le hRlt (hr6 k hk))
      have hg06 := grown_new hg02 hg6 hr6
      clear ho2 hg6 hr6 hR2 hg02
      go_wp2_with fail
      go_roundw
      case rel => exact ⟨t + 1, cs ++ [x], by omega, by go_num, by rw [← hl] at ho6 ⊢; simpa [cyCells_app, cyCells_one1] using ho6, by simp; omega, rd_more hR6 (by omega), hg06⟩
      case measure => simp [intOf]; omega
    · obtain rfl : t = n := by omega
      go_wp2_with fail
      refine (pick_ok R _ 30 _ hRr (by omega) (by decide)).mono ?_
      rintro e w5 ⟨c, rfl, hc, hR5, hg5⟩
      have ho5 := ho.kept hg5 (rd_apart hR ho)
      have hg05 := grown_trans' hgr hg5
      have hsz5 := hg05.size
      clear ho hg5 hgr hc
      by_cases hc0 : (c : Int) = 0
      · go_wp2_with (at_builtin; refine wpList_append_one w5 rfl _ _ 39 rfl w.heap.size 51 i0 _ 8 64 Try.underlying39 hi hz0 hz1 hz2 rfl (by decide) _ _ _ rfl ho5 zero8.cells _ _ rfl rfl (by simp [Value.oneCell', C8.cells]) (by omega) (by decide) hsz5 rfl (by simp) ?_)
        intro g6 cap6 w6 ho6 hg6 hr6
        have hR6 := rd_grown hR5 hg6 (fun k hk => Nat.lt_of_lt_of_le hRlt (hr6 k hk))
        have hg06 := grown_new hg05 hg6 hr6
        clear ho5 hg6 hr6 hR5 hg05
        go_wp2_with fail
        go_ret
        exact ⟨_, cs ++ [zero8], rfl, by rw [← hl] at ho6 ⊢; simpa [cyCells_app, cyCells_one1] using ho6, by simp; omega, rd_more hR6 (by omega), hg06⟩
      · go_wp2_with fail
        go_ret
        exact ⟨_, cs, rfl, ho5, by omega, rd_more hR5 (by omega), hg05⟩

def DrOutC (K : Nat) (w : World) (e : Ending) (w' : World) : Prop :=
  ∃ v cs, e = .returned v ∧ w'.ownsRow w.heap.size 51 8 v cs.length (cyCells cs) ∧ cs.length ≤ K ∧ Below w.heap.size w w'

theorem drawRow_ok (A : Option Addr) (c : Nat) (bs : List Int) (w : World) (hc : CodeIn w A c bs) : Calls Try.prog 58 #[.slice A bs.length c] w (DrOutC 13 w) := by
  have H := hide hc
  clear hc
  go_enter Try.func58, Try.ntmps58
  go_wp2_with fail
  refine (l6Open_ok A c bs _ H.out.1 H.out.2.1 H.out.2.2.1 H.out.2.2.2).mono ?_
  rintro e w1 ⟨R, rfl, hR, hR1, hb1⟩
  go_wp2_with fail
  refine (l91Length_ok R 0 _ hR1 (by decide)).mono ?_
  rintro e w2 ⟨n, rfl, hn1, hn2, hR2, hg2⟩
  have hb2 := kept_of_new hb1 hg2 hR
  go_wp2_with fail
  refine (l91Row_ok R _ n _ hR2 (by omega) (by omega)).mono ?_
  rintro e w3 ⟨v, cs, rfl, ho, hl, hR3, hg3⟩
  have hb3 := kept_of_new hb2 hg3 hR
  have hs := hb2.size
  go_wp2_with fail
  go_ret
  exact ⟨v, cs, rfl, owns_base ho hs, by omega, hb3⟩

end Go.Proofs.Ytnlmiemnblppbaa
