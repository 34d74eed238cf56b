/-
  Drawn polygons.
-/
import Derived.Test.YtmobajlakelidaaRo
namespace Go.Proofs.Ytmobajlakelidaa
open Go.RowKit

/-- A drawn list of points. -/
def DrPl (w : World) (R : Nat) (e : Ending) (w' : World) : Prop :=
  ∃ v cs, e = .returned v ∧ Has w' w.heap.size 8 v cs.length (cyCells cs) ∧ cs.length ≤ 30 ∧ w.grownBy w' (some R)

theorem polyN (k : Nat) (h : k < 6) : ∃ n : Nat, [3, 4, 6, 8, 12, 24][k]? = some n ∧ divB n = true := by
  match k, h with
  | 0, _ => exact ⟨3, rfl, by decide⟩ | 1, _ => exact ⟨4, rfl, by decide⟩ | 2, _ => exact ⟨6, rfl, by decide⟩ | 3, _ => exact ⟨8, rfl, by decide⟩ | 4, _ => exact ⟨12, rfl, by decide⟩ | 5, _ => exact ⟨24, rfl, by decide⟩

theorem dp_apart {w w' : World} {R N : Nat} {e : TypeId} {s n : Nat} {v : Value} {xs : List Value} (hR : Rd w R N) (h : w'.ownsRow w.heap.size e s v n xs) : v.ownBlock = none ∨ v.ownBlock ≠ some R := by
  cases hv : v.ownBlock with
  | none => exact .inl rfl
  | some k => exact .inr fun e => by cases e; have := (h.lt _ hv).1; have := rd_lt hR; omega

set_option maxRecDepth 100000 in
set_option maxHeartbeats 8000000 in
theorem l92Poly_ok (R N : Nat) (w : World) (hR : Rd w R N) (hN : N ≤ 500000) :
    Calls Try.prog 44 #[.pointer (some ⟨R, 0, none⟩)] w (DrPl w R) := by
  obtain ⟨i0, hi, hz0, hz1, hz2⟩ := info_parts Try.infoCy
  have hRlt := rd_lt hR
  have hlen : ∀ k, k < 6 → (w.alloc (.cells #[.int .i64 3, .int .i64 4, .int .i64 6, .int .i64 8, .int .i64 12, .int .i64 24] 3)).cell? ⟨w.heap.size, k, none⟩ = ([3, 4, 6, 8, 12, 24][k]?).map fun n : Nat => Value.int .i64 n := by
    intro k hk
    rw [cell_of_row _ _ _ _ _ _ (heap_alloc_new w _)]
    match k, hk with
    | 0, _ => rfl | 1, _ => rfl | 2, _ => rfl | 3, _ => rfl | 4, _ => rfl | 5, _ => rfl
  have Hlen := hide hlen
  have hb0 := kept_new w (.cells #[.int .i64 3, .int .i64 4, .int .i64 6, .int .i64 8, .int .i64 12, .int .i64 24] 3)
  have hR0 := rd_kept hR hb0
  clear hlen
  go_enter Try.func44, Try.ntmps44
  go_wp2_with fail
  refine (pick_ok R N 6 _ hR0 (by omega) (by decide)).mono ?_
  rintro e w1 ⟨k, rfl, hk, hR1, hg1⟩
  have hk6 : k < 6 := by omega
  obtain ⟨n, hn, hdn⟩ := polyN k hk6
  have hc := Hlen.out k hk6
  rw [hn] at hc
  have hc1 := hg1.cell hc (by simp; omega)
  have hg := grown_trans' (grown_of_kept hb0 _) hg1
  clear hc hn hk hg1 hb0 hR0 Hlen
  go_wp2_with fail
  refine (l92Design_ok R _ _ hR1 (by omega)).mono ?_
  rintro e w2 ⟨vd, ws, rfl, hwl, hwn, hR2, hg2⟩
  have hg02 := grown_trans' hg hg2
  clear hg hg2 hR1 hc1
  go_wp2_with fail
  refine (rowOf_any vd ws n _ (has_reads hwl) (by omega) hdn).mono ?_
  rintro e w3 ⟨vr, cs, ok, rfl, hor, hcl, hokn, hb3⟩
  have hR3 := rd_kept hR2 hb3
  have hg03 := grown_trans' hg02 (grown_of_kept hb3 _)
  have hor3 := owns_base hor hg02.size
  clear hor hokn hwl hdn hb3 hR2
  cases ok with
  | true =>
    go_wp2_with fail
    refine (pick_ok R _ 2 _ hR3 (by omega) (by decide)).mono ?_
    rintro e w4 ⟨p, rfl, hp, hR4, hg4⟩
    have hor4 := hor3.kept hg4 (dp_apart hR hor3)
    have hg04 := grown_trans' hg03 hg4
    clear hp hg4 hR3 hor3 hg03
    by_cases hp0 : (p : Int) = 0
    · have hor4' := hide (has_owns hor4)
      clear hor4
      go_wp2_with fail
      go_ret
      exact ⟨_, cs, rfl, hor4'.out, by omega, hg04⟩
    · clear hor4
      have hbk := kept_new w4 (.cells #[] 39)
      have ho0 := World.ownsRow_lit (base := w.heap.size) (e := 39) (size := 8) w4 #[] 0 hg04.size (by decide) (by simp)
      have hszX := hg04.size
      go_wp2_with fail
      refine (pick_ok R _ 6 _ (rd_kept hR4 hbk) (by omega) (by decide)).mono ?_
      rintro e w5 ⟨m, rfl, hm, hR5, hg5⟩
      have hm6 : m < 6 := by omega
      have ho5 := ho0.kept hg5 (.inr (by simp [Value.ownBlock]; omega))
      have hg05 := grown_trans' (grown_trans' hg04 (grown_of_kept hbk _)) hg5
      have hR5' : Rd w5 R (N + 100) := rd_more hR5 (by omega)
      clear hm ho0 hbk hg5 hR4 hg04 hR5
      go_wp2_with fail
      go_loopw [6, 8] (fun u i wr => ∃ (t : Nat) (cs : List C8), t ≤ m + 1 ∧ i = .int .i64 t ∧ wr.ownsRow w.heap.size 39 8 u cs.length (cyCells cs) ∧ cs.length = t ∧ Rd wr R (N + 100 + 2 * t) ∧ w.grownBy wr (some R)) (fun _ i _ => m + 1 - (intOf i).toNat)
      case atStart => exact ⟨0, [], by omega, rfl, ho5, by simp, hR5', hg05⟩
      case round =>
        obtain ⟨t, cs, ht, rfl, ho, hl, hRr, hgr⟩ := hrel
        clear ho5 hR5' hg05
        by_cases hlt : t < m + 1
        · have hlt' : (t : Int) < 1 + (m : Int) := by omega
          go_wp2_with fail
          refine (pick_ok R _ 7 _ hRr (by omega) (by decide)).mono ?_
          rintro e w6 ⟨a, rfl, ha, hR6, hg6⟩
          have ha7 : a < 7 := by omega
          go_wp2_with fail
          refine (pick_ok R _ 7 _ hR6 (by omega) (by decide)).mono ?_
          rintro e w7 ⟨b, rfl, hb, hR7, hg7⟩
          have hb7 : b < 7 := by omega
          go_wp2_with fail
          refine (l2Gauss_ok ((a : Int) - 3) ((b : Int) - 3) _).mono ?_
          rintro e w8 ⟨rfl, hb8⟩
          have ho8 := owns_kept ((ho.kept hg6 (dp_apart hR ho)).kept hg7 (dp_apart hR (ho.kept hg6 (dp_apart hR ho)))) hb8
          have hg08 := grown_trans' (grown_trans' (grown_trans' hgr hg6) hg7) (grown_of_kept hb8 _)
          have hR8 := rd_kept hR7 hb8
          have hsz8 := hg08.size
          obtain ⟨x, hx⟩ : ∃ x : C8, (⟨(a : Int) - 3, 0, 0, 0, 0, 0, (b : Int) - 3, 0⟩ : C8) = x := ⟨_, rfl⟩
          rw [hx, val_spell]
          clear ho hgr hg6 hg7 hb8 hRr hR6 hR7 ha hb hx
          go_wp2_with (at_builtin; refine wpList_append_one w8 rfl _ _ 25 rfl w.heap.size 39 i0 _ 8 64 Try.underlying25 hi hz0 hz1 hz2 rfl (by decide) _ _ _ rfl ho8 x.cells _ _ rfl rfl (by simp [Value.oneCell', C8.cells]) (by omega) (by decide) hsz8 rfl (by simp) ?_)
          intro g9 cap9 w9 ho9 hg9 hr9
          have hR9 := rd_grown hR8 hg9 (fun k hk => Nat.lt_of_lt_of_le hRlt (hr9 k hk))
          have hg09 := grown_new hg08 hg9 hr9
          clear ho8 hg9 hr9 hR8 hg08
          go_wp2_with fail
          go_roundw
          case rel => exact ⟨t + 1, cs ++ [x], by omega, by go_num, by rw [← hl] at ho9 ⊢; simpa [ro_app, ro_one] using ho9, by simp; omega, rd_more hR9 (by omega), hg09⟩
          case measure => simp [intOf]; omega
        · obtain rfl : t = m + 1 := by omega
          have hlt' : ¬ ((m + 1 : Nat) : Int) < 1 + (m : Int) := by omega
          have hnz : cs.length ≠ 0 := by omega
          have hcl30 : cs.length ≤ 7 := by omega
          clear hl
          obtain ⟨g, cap, rfl⟩ : ∃ g cap, u6 = .slice (some ⟨g, 0, none⟩) cs.length cap := by
            rcases ho.2 with ⟨_, h0⟩ | ⟨g, cap, cur, h1, _⟩
            · exact absurd h0 hnz
            · exact ⟨g, cap, h1⟩
          go_wp2_with fail
          refine (pick_ok R _ 24 _ hRr (by omega) (by decide)).mono ?_
          rintro e w6 ⟨q, rfl, hq, hR6, hg6⟩
          have ho6 := ho.kept hg6 (dp_apart hR ho)
          have hg06 := grown_trans' hgr hg6
          have hsz6 := hg06.size
          clear ho hg6 hgr hRr hq
          by_cases q0 : q = 0
          · subst q0
            have hoe := World.ownsRow_lit (base := w.heap.size) (e := 39) (size := 8) w6 #[] 0 hsz6 (by decide) (by simp)
            have hge := grown_trans' hg06 (grown_of_kept (kept_new w6 (.cells #[] 39)) (some R))
            clear ho6
            go_wp2_with fail
            go_ret
            exact ⟨_, [], rfl, has_owns hoe, by simp, hge⟩
          have d0 : ((q : Int) == 0) = false := beq_eq_false_iff_ne.2 (by omega)
          by_cases q1 : q = 1
          · subst q1
            have hh6 := has_owns ho6
            have hbg := (ho6.lt g rfl).1
            obtain ⟨c0, cs', rfl⟩ : ∃ c0 cs', cs = c0 :: cs' := by
              cases cs with
              | nil => exact absurd rfl hnz
              | cons c0 cs' => exact ⟨c0, cs', rfl⟩
            have hc3 : w6.cell? ⟨g, 3, none⟩ = some (.int .i64 c0.a3) := by
              rw [ho6.cellAt 3 (by simp; omega)]
              rfl
            have hf3 := ho6.frozenAt 3
            have hst := (has_stored hh6 3 (.int .i64 101)).1
            have e1 : (cyCells (c0 :: cs')).set 3 (.int .i64 101) = cyCells (c0.set 3 101 :: cs') := by
              simp [cyCells, C8.cells, C8.set]
            rw [e1] at hst
            have Hst := hide hst
            have Hg := hide (grown_set hg06 (p := ⟨g, 3, none⟩) hbg (.int .i64 101))
            have i0' : (0 : Int) < ((c0 :: cs').length : Int) := by simp
            have i1' : (0 : Int) < (cs'.length : Int) + 1 := by omega
            clear hst ho6 hh6 e1
            go_wp2_with fail
            go_ret
            exact ⟨_, c0.set 3 101 :: cs', rfl, Hst.out, by simp at hcl30 ⊢; omega, Hg.out⟩
          have d1 : ((q : Int) == 1) = false := beq_eq_false_iff_ne.2 (by omega)
          by_cases q2 : q = 2
          · subst q2
            go_wp2_with fail
            refine (l91Cyc_ok R _ _ hR6 (by omega)).mono ?_
            rintro e w7 ⟨x, rfl, hR7, hg7⟩
            have ho7 := ho6.kept hg7 (dp_apart hR ho6)
            have hg07 := grown_trans' hg06 hg7
            have hsz7 := hg07.size
            clear ho6 hg7 hg06 hR6
            rw [val_spell]
            go_wp2_with (at_builtin; refine wpList_append_one w7 rfl _ _ 25 rfl w.heap.size 39 i0 _ 8 64 Try.underlying25 hi hz0 hz1 hz2 rfl (by decide) _ _ _ rfl ho7 x.cells _ _ rfl rfl (by simp [Value.oneCell', C8.cells]) (by omega) (by decide) hsz7 rfl (by simp) ?_)
            intro g9 cap9 w9 ho9 hg9 hr9
            have hg09 := grown_new hg07 hg9 hr9
            clear ho7 hg9 hr9 hR7 hg07
            go_wp2_with fail
            go_ret
            exact ⟨_, cs ++ [x], rfl, has_owns (by simpa [ro_app, ro_one] using ho9), by simp; omega, hg09⟩
          have d2 : ((q : Int) == 2) = false := beq_eq_false_iff_ne.2 (by omega)
          have Hh := hide (has_owns ho6)
          clear ho6 q0 q1 q2
          go_wp2_with fail
          go_ret
          exact ⟨_, cs, rfl, Hh.out, by omega, hg06⟩
  | false =>
    clear hor3
    have hbk := kept_new w3 (.cells #[] 39)
    have ho0 := World.ownsRow_lit (base := w.heap.size) (e := 39) (size := 8) w3 #[] 0 hg03.size (by decide) (by simp)
    have hszX := hg03.size
    go_wp2_with fail
    refine (pick_ok R _ 6 _ (rd_kept hR3 hbk) (by omega) (by decide)).mono ?_
    rintro e w5 ⟨m, rfl, hm, hR5, hg5⟩
    have hm6 : m < 6 := by omega
    have ho5 := ho0.kept hg5 (.inr (by simp [Value.ownBlock]; omega))
    have hg05 := grown_trans' (grown_trans' hg03 (grown_of_kept hbk _)) hg5
    have hR5' : Rd w5 R (N + 100) := rd_more hR5 (by omega)
    clear hm ho0 hbk hg5 hR3 hg03 hR5
    go_wp2_with fail
    go_loopw [6, 8] (fun u i wr => ∃ (t : Nat) (cs : List C8), t ≤ m + 1 ∧ i = .int .i64 t ∧ wr.ownsRow w.heap.size 39 8 u cs.length (cyCells cs) ∧ cs.length = t ∧ Rd wr R (N + 100 + 2 * t) ∧ w.grownBy wr (some R)) (fun _ i _ => m + 1 - (intOf i).toNat)
    case atStart => exact ⟨0, [], by omega, rfl, ho5, by simp, hR5', hg05⟩
    case round =>
      obtain ⟨t, cs, ht, rfl, ho, hl, hRr, hgr⟩ := hrel
      clear ho5 hR5' hg05
      by_cases hlt : t < m + 1
      · have hlt' : (t : Int) < 1 + (m : Int) := by omega
        go_wp2_with fail
        refine (pick_ok R _ 7 _ hRr (by omega) (by decide)).mono ?_
        rintro e w6 ⟨a, rfl, ha, hR6, hg6⟩
        have ha7 : a < 7 := by omega
        go_wp2_with fail
        refine (pick_ok R _ 7 _ hR6 (by omega) (by decide)).mono ?_
        rintro e w7 ⟨b, rfl, hb, hR7, hg7⟩
        have hb7 : b < 7 := by omega
        go_wp2_with fail
        refine (l2Gauss_ok ((a : Int) - 3) ((b : Int) - 3) _).mono ?_
        rintro e w8 ⟨rfl, hb8⟩
        have ho8 := owns_kept ((ho.kept hg6 (dp_apart hR ho)).kept hg7 (dp_apart hR (ho.kept hg6 (dp_apart hR ho)))) hb8
        have hg08 := grown_trans' (grown_trans' (grown_trans' hgr hg6) hg7) (grown_of_kept hb8 _)
        have hR8 := rd_kept hR7 hb8
        have hsz8 := hg08.size
        obtain ⟨x, hx⟩ : ∃ x : C8, (⟨(a : Int) - 3, 0, 0, 0, 0, 0, (b : Int) - 3, 0⟩ : C8) = x := ⟨_, rfl⟩
        rw [hx, val_spell]
        clear ho hgr hg6 hg7 hb8 hRr hR6 hR7 ha hb hx
        go_wp2_with (at_builtin; refine wpList_append_one w8 rfl _ _ 25 rfl w.heap.size 39 i0 _ 8 64 Try.underlying25 hi hz0 hz1 hz2 rfl (by decide) _ _ _ rfl ho8 x.cells _ _ rfl rfl (by simp [Value.oneCell', C8.cells]) (by omega) (by decide) hsz8 rfl (by simp) ?_)
        intro g9 cap9 w9 ho9 hg9 hr9
        have hR9 := rd_grown hR8 hg9 (fun k hk => Nat.lt_of_lt_of_le hRlt (hr9 k hk))
        have hg09 := grown_new hg08 hg9 hr9
        clear ho8 hg9 hr9 hR8 hg08
        go_wp2_with fail
        go_roundw
        case rel => exact ⟨t + 1, cs ++ [x], by omega, by go_num, by rw [← hl] at ho9 ⊢; simpa [ro_app, ro_one] using ho9, by simp; omega, rd_more hR9 (by omega), hg09⟩
        case measure => simp [intOf]; omega
      · obtain rfl : t = m + 1 := by omega
        have hlt' : ¬ ((m + 1 : Nat) : Int) < 1 + (m : Int) := by omega
        have hnz : cs.length ≠ 0 := by omega
        have hcl30 : cs.length ≤ 7 := by omega
        clear hl
        obtain ⟨g, cap, rfl⟩ : ∃ g cap, u6 = .slice (some ⟨g, 0, none⟩) cs.length cap := by
          rcases ho.2 with ⟨_, h0⟩ | ⟨g, cap, cur, h1, _⟩
          · exact absurd h0 hnz
          · exact ⟨g, cap, h1⟩
        go_wp2_with fail
        refine (pick_ok R _ 24 _ hRr (by omega) (by decide)).mono ?_
        rintro e w6 ⟨q, rfl, hq, hR6, hg6⟩
        have ho6 := ho.kept hg6 (dp_apart hR ho)
        have hg06 := grown_trans' hgr hg6
        have hsz6 := hg06.size
        clear ho hg6 hgr hRr hq
        by_cases q0 : q = 0
        · subst q0
          have hoe := World.ownsRow_lit (base := w.heap.size) (e := 39) (size := 8) w6 #[] 0 hsz6 (by decide) (by simp)
          have hge := grown_trans' hg06 (grown_of_kept (kept_new w6 (.cells #[] 39)) (some R))
          clear ho6
          go_wp2_with fail
          go_ret
          exact ⟨_, [], rfl, has_owns hoe, by simp, hge⟩
        have d0 : ((q : Int) == 0) = false := beq_eq_false_iff_ne.2 (by omega)
        by_cases q1 : q = 1
        · subst q1
          have hh6 := has_owns ho6
          have hbg := (ho6.lt g rfl).1
          obtain ⟨c0, cs', rfl⟩ : ∃ c0 cs', cs = c0 :: cs' := by
            cases cs with
            | nil => exact absurd rfl hnz
            | cons c0 cs' => exact ⟨c0, cs', rfl⟩
          have hc3 : w6.cell? ⟨g, 3, none⟩ = some (.int .i64 c0.a3) := by
            rw [ho6.cellAt 3 (by simp; omega)]
            rfl
          have hf3 := ho6.frozenAt 3
          have hst := (has_stored hh6 3 (.int .i64 101)).1
          have e1 : (cyCells (c0 :: cs')).set 3 (.int .i64 101) = cyCells (c0.set 3 101 :: cs') := by
            simp [cyCells, C8.cells, C8.set]
          rw [e1] at hst
          have Hst := hide hst
          have Hg := hide (grown_set hg06 (p := ⟨g, 3, none⟩) hbg (.int .i64 101))
          have i0' : (0 : Int) < ((c0 :: cs').length : Int) := by simp
          have i1' : (0 : Int) < (cs'.length : Int) + 1 := by omega
          clear hst ho6 hh6 e1
          go_wp2_with fail
          go_ret
          exact ⟨_, c0.set 3 101 :: cs', rfl, Hst.out, by simp at hcl30 ⊢; omega, Hg.out⟩
        have d1 : ((q : Int) == 1) = false := beq_eq_false_iff_ne.2 (by omega)
        by_cases q2 : q = 2
        · subst q2
          go_wp2_with fail
          refine (l91Cyc_ok R _ _ hR6 (by omega)).mono ?_
          rintro e w7 ⟨x, rfl, hR7, hg7⟩
          have ho7 := ho6.kept hg7 (dp_apart hR ho6)
          have hg07 := grown_trans' hg06 hg7
          have hsz7 := hg07.size
          clear ho6 hg7 hg06 hR6
          rw [val_spell]
          go_wp2_with (at_builtin; refine wpList_append_one w7 rfl _ _ 25 rfl w.heap.size 39 i0 _ 8 64 Try.underlying25 hi hz0 hz1 hz2 rfl (by decide) _ _ _ rfl ho7 x.cells _ _ rfl rfl (by simp [Value.oneCell', C8.cells]) (by omega) (by decide) hsz7 rfl (by simp) ?_)
          intro g9 cap9 w9 ho9 hg9 hr9
          have hg09 := grown_new hg07 hg9 hr9
          clear ho7 hg9 hr9 hR7 hg07
          go_wp2_with fail
          go_ret
          exact ⟨_, cs ++ [x], rfl, has_owns (by simpa [ro_app, ro_one] using ho9), by simp; omega, hg09⟩
        have d2 : ((q : Int) == 2) = false := beq_eq_false_iff_ne.2 (by omega)
        have Hh := hide (has_owns ho6)
        clear ho6 q0 q1 q2
        go_wp2_with fail
        go_ret
        exact ⟨_, cs, rfl, Hh.out, by omega, hg06⟩

end Go.Proofs.Ytmobajlakelidaa
