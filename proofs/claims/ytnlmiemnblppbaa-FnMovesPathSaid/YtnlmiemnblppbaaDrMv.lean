/-
  Moves that a reader draws: some list of moves, none great, in a slice of its own.
-/
import Derived.Test.YtnlmiemnblppbaaMv2
import Derived.Test.YtnlmiemnblppbaaRd
namespace Go.Proofs.Ytnlmiemnblppbaa
open Go.RowKit

/-- A drawn list of moves. -/
def DrMv (w : World) (R N : Nat) (e : Ending) (w' : World) : Prop :=
  ∃ v ms, e = .returned v ∧ w'.ownsRow w.heap.size 31 2 v ms.length (mvCells ms) ∧ ms.length ≤ 20 ∧ Rd w' R (N + 30) ∧ w.grownBy w' (some R)

def smallM (m : Int × Int) : Prop := (-4 ≤ m.1 ∧ m.1 ≤ 4) ∧ -4 ≤ m.2 ∧ m.2 ≤ 4
/-- .. whose moves are small, unless it is no list of moves. -/
def DrMvS (w : World) (R N : Nat) (e : Ending) (w' : World) : Prop :=
  ∃ v ms, e = .returned v ∧ w'.ownsRow w.heap.size 31 2 v ms.length (mvCells ms) ∧ ms.length ≤ 20 ∧ Rd w' R (N + 30) ∧ w.grownBy w' (some R) ∧ ((∀ m ∈ ms, smallM m) ∨ mvsIn ms = false)

theorem small_snoc {ms : List (Int × Int)} {m : Int × Int} (h : ∀ m ∈ ms, smallM m) (hm : smallM m) : ∀ x ∈ ms ++ [m], smallM x := by
  intro x hx
  rcases List.mem_append.1 hx with hx | hx
  · exact h x hx
  · simp only [List.mem_singleton] at hx
    subst hx
    exact hm

theorem mvCells_app (a b : List (Int × Int)) : mvCells (a ++ b) = mvCells a ++ mvCells b := by simp [mvCells]

theorem rd_apart {w w' : World} {R N : Nat} {e : TypeId} {s n : Nat} {v : Value} {xs : List Value} (hR : Rd w R N) (h : w'.ownsRow w.heap.size e s v n xs) : v.ownBlock = none ∨ v.ownBlock ≠ some R := by
  cases hv : v.ownBlock with
  | none => exact .inl rfl
  | some k => exact .inr fun e => by cases e; have := (h.lt _ hv).1; have := rd_lt hR; omega

set_option maxRecDepth 100000 in
set_option maxHeartbeats 2000000 in
theorem l92MovesS_ok (R N : Nat) (w : World) (hR : Rd w R N) (hN : N ≤ 900000) :
    Calls Try.prog 43 #[.pointer (some ⟨R, 0, none⟩)] w (DrMvS w R N) := by
  obtain ⟨i0, hi, hz0, hz1, hz2⟩ := info_parts Try.infoMv
  have hRlt := rd_lt hR
  go_enter Try.func43, Try.ntmps43
  go_wp2_with fail
  have hb0 : Below w.heap.size w (w.alloc (.cells #[] 31)) := kept_new _ _
  refine (pick_ok R N 8 _ (rd_kept hR hb0) (by omega) (by decide)).mono ?_
  rintro e w1 ⟨n, rfl, hn, hR1, hg1⟩
  have hn8 : n < 8 := by omega
  have ho0 : (w.alloc (.cells #[] 31)).ownsRow w.heap.size 31 2 (.slice (some ⟨w.heap.size, 0, none⟩) 0 0) 0 [] := by
    simpa using World.ownsRow_lit (base := w.heap.size) (e := 31) (size := 2) w #[] 0 (Nat.le_refl _) (by decide) (by simp)
  have ho1 := ho0.kept hg1 (rd_apart hR ho0)
  have hgg1 : w.grownBy w1 (some R) := grown_trans' (grown_of_kept hb0 _) hg1
  clear hn ho0 hg1 hb0
  go_wp2_with fail
  go_loopw [3, 5] (fun v i wr => ∃ (t : Nat) (ms : List (Int × Int)), t ≤ n ∧ i = .int .i64 t ∧ wr.ownsRow w.heap.size 31 2 v ms.length (mvCells ms) ∧ ms.length ≤ 2 * t ∧ Rd wr R (N + 1 + 3 * t) ∧ w.grownBy wr (some R) ∧ ∀ m ∈ ms, smallM m) (fun _ i _ => n - (intOf i).toNat)
  case atStart => exact ⟨0, [], by omega, rfl, ho1, by simp, hR1, hgg1, by simp⟩
  case round =>
    obtain ⟨t, ms, ht, rfl, ho, hl, hRr, hgr, hsm⟩ := hrel
    have Hsm := hide hsm
    clear hsm
    by_cases hlt : t < n
    · go_wp2_with fail
      refine (pick_ok R _ 5 _ hRr (by omega) (by decide)).mono ?_
      rintro e w2 ⟨a, rfl, ha, hR2, hg2⟩
      have ha5 : a < 5 := by omega
      go_wp2_with fail
      refine (pick_ok R _ 5 _ hR2 (by omega) (by decide)).mono ?_
      rintro e w3 ⟨b, rfl, hb, hR3, hg3⟩
      have hb5 : b < 5 := by omega
      clear ha hb
      have ho3 := (ho.kept hg2 (rd_apart hR ho)).kept hg3 (rd_apart hR (ho.kept hg2 (rd_apart hR ho)))
      have hg03 := grown_trans' (grown_trans' hgr hg2) hg3
      clear ho hg2 hg3 hgr hRr hR2
      have hsz3 : w.heap.size ≤ w3.heap.size := hg03.size
      go_wp2_with (at_builtin; refine wpList_append_one (w3.alloc (.cells #[.int .i64 ((a : Int) - 2), .int .i64 ((b : Int) - 2)] 31)) rfl _ _ 23 rfl w.heap.size 31 i0 _ 2 16 Try.underlying23 hi hz0 hz1 hz2 rfl (by decide) _ _ _ rfl (ho3.alloc _) [.int .i64 ((a : Int) - 2), .int .i64 ((b : Int) - 2)] _ _ rfl rfl (by simp [Value.oneCell']) (by omega) (by decide) (Nat.le_trans hsz3 (kept_new w3 _).size) rfl (by simp) ?_)
      intro g4 cap4 w4 ho4 hg4 hr4
      have hka := kept_new w3 (.cells #[.int .i64 ((a : Int) - 2), .int .i64 ((b : Int) - 2)] 31)
      have hR4 := rd_grown (rd_kept hR3 hka) hg4 (fun k hk => Nat.lt_of_lt_of_le hRlt (hr4 k hk))
      have hg04 := grown_new hg03 (grown_trans' (grown_of_kept hka _) hg4) hr4
      have hap : u3.ownBlock = none ∨ u3.ownBlock ≠ some w3.heap.size := by
        cases hv : u3.ownBlock with
        | none => exact .inl rfl
        | some k => exact .inr fun e => by cases e; have := (ho3.lt _ hv).2; omega
      have hne : some w3.heap.size ≠ u3.ownBlock := by
        rcases hap with h | h
        · rw [h]; simp
        · exact Ne.symm h
      have p0 : w4.cell? ⟨w3.heap.size, 0, none⟩ = some (.int .i64 ((a : Int) - 2)) := hg4.cell (by go_simp) hne
      have p1 : w4.cell? ⟨w3.heap.size, 1, none⟩ = some (.int .i64 ((b : Int) - 2)) := hg4.cell (by go_simp) hne
      have hlt3 : w3.heap.size < w4.heap.size := Nat.lt_of_lt_of_le (by simp) hg4.size
      clear hap hne hg4 hr4 ho3 hka hR3 hg03
      go_wp2_with fail
      refine (pick_ok R _ 3 _ hR4 (by omega) (by decide)).mono ?_
      rintro e w5 ⟨c, rfl, hc, hR5, hg5⟩
      have ho5 := ho4.kept hg5 (rd_apart hR ho4)
      have hg05 := grown_trans' hg04 hg5
      have hnR : some w3.heap.size ≠ some R := by simp; omega
      replace p0 := hg5.cell p0 hnR
      replace p1 := hg5.cell p1 hnR
      have hsz5 := hg05.size
      clear ho4 hg5 hg04 hnR hc
      by_cases hc0 : (c : Int) = 0
      · go_wp2_with (at_builtin; refine wpList_append_one w5 rfl _ _ 23 rfl w.heap.size 31 i0 _ 2 16 Try.underlying23 hi hz0 hz1 hz2 rfl (by decide) _ _ _ rfl ho5 [.int .i64 (2 * ((a : Int) - 2)), .int .i64 (2 * ((b : Int) - 2))] _ _ rfl rfl (by simp [Value.oneCell']) (by omega) (by decide) hsz5 rfl (by simp) ?_)
        intro g6 cap6 w6 ho6 hg6 hr6
        have hR6 := rd_grown hR5 hg6 (fun k hk => Nat.lt_of_lt_of_le hRlt (hr6 k hk))
        have hg06 := grown_new hg05 hg6 hr6
        clear ho5 hg6 hr6 hR5 hg05
        go_wp2_with fail
        go_roundw
        case rel => exact ⟨t + 1, ms ++ [((a : Int) - 2, (b : Int) - 2)] ++ [(2 * ((a : Int) - 2), 2 * ((b : Int) - 2))], by omega, by go_num, by simpa [mvCells] using ho6, by simp; omega, rd_more hR6 (by omega), hg06, small_snoc (small_snoc Hsm.out ⟨⟨by dsimp only; omega, by dsimp only; omega⟩, by dsimp only; omega, by dsimp only; omega⟩) ⟨⟨by dsimp only; omega, by dsimp only; omega⟩, by dsimp only; omega, by dsimp only; omega⟩⟩
        case measure => simp [intOf]; omega
      · go_wp2_with fail
        go_roundw
        case rel => exact ⟨t + 1, ms ++ [((a : Int) - 2, (b : Int) - 2)], by omega, by go_num, by simpa [mvCells] using ho5, by simp; omega, rd_more hR5 (by omega), hg05, small_snoc Hsm.out ⟨⟨by dsimp only; omega, by dsimp only; omega⟩, by dsimp only; omega, by dsimp only; omega⟩⟩
        case measure => simp [intOf]; omega
    · obtain rfl : t = n := by omega
      go_wp2_with fail
      refine (pick_ok R _ 24 _ hRr (by omega) (by decide)).mono ?_
      rintro e w5 ⟨c, rfl, hc, hR5, hg5⟩
      have ho5 := ho.kept hg5 (rd_apart hR ho)
      have hg05 := grown_trans' hgr hg5
      have hsz5 := hg05.size
      clear ho hg5 hgr hc
      by_cases hc0 : (c : Int) = 0
      · go_wp2_with (at_builtin; refine wpList_append_one w5 rfl _ _ 23 rfl w.heap.size 31 i0 _ 2 16 Try.underlying23 hi hz0 hz1 hz2 rfl (by decide) _ _ _ rfl ho5 [.int .i64 10000001, .int .i64 0] _ _ rfl rfl (by simp [Value.oneCell']) (by omega) (by decide) hsz5 rfl (by simp) ?_)
        intro g6 cap6 w6 ho6 hg6 hr6
        have hR6 := rd_grown hR5 hg6 (fun k hk => Nat.lt_of_lt_of_le hRlt (hr6 k hk))
        have hg06 := grown_new hg05 hg6 hr6
        clear ho5 hg6 hr6 hR5 hg05
        go_wp2_with fail
        go_ret
        exact ⟨_, ms ++ [(10000001, 0)], rfl, by simpa [mvCells] using ho6, by simp; omega, rd_more hR6 (by omega), hg06, .inr (mvsIn_no (ms := ms ++ [(10000001, 0)]) (t := ms.length) (by simp) (by simp [mvIn]))⟩
      · go_wp2_with fail
        go_ret
        exact ⟨_, ms, rfl, ho5, by omega, rd_more hR5 (by omega), hg05, .inl Hsm.out⟩

theorem l92Moves_ok (R N : Nat) (w : World) (hR : Rd w R N) (hN : N ≤ 900000) :
    Calls Try.prog 43 #[.pointer (some ⟨R, 0, none⟩)] w (DrMv w R N) :=
  (l92MovesS_ok R N w hR hN).mono fun _ _ ⟨v, ms, h1, h2, h3, h4, h5, _⟩ => ⟨v, ms, h1, h2, h3, h4, h5⟩

end Go.Proofs.Ytnlmiemnblppbaa
