/-
  Designs that a reader draws: some list of wheels in a slice of its own.
-/
import Derived.Test.YtnlmiemnblppbaaDc2
import Derived.Test.YtnlmiemnblppbaaOpenB
import Derived.Test.YtnlmiemnblppbaaRg
namespace Go.Proofs.Ytnlmiemnblppbaa
open Go.RowKit

/-- A drawn list of wheels. -/
def DrWl (K M : Nat) (w : World) (R N : Nat) (e : Ending) (w' : World) : Prop :=
  ∃ v ws, e = .returned v ∧ Has w' w.heap.size 9 v ws.length (wlCells ws) ∧ ws.length ≤ K ∧ Rd w' R (N + M) ∧ w.grownBy w' (some R)

theorem rd_apart {w w' : World} {R N : Nat} {e : TypeId} {s n : Nat} {v : Value} {xs : List Value} (hR : Rd w R N) (h : w'.ownsRow w.heap.size e s v n xs) : v.ownBlock = none ∨ v.ownBlock ≠ some R := by
  cases hv : v.ownBlock with
  | none => exact .inl rfl
  | some k => exact .inr fun e => by cases e; have := (h.lt _ hv).1; have := rd_lt hR; omega

/-- The cells of a list that is appended to itself. -/
theorem news_self {w : World} {base g n cap : Nat} {ws : List W9} (h : w.ownsRow base 124 9 (.slice (some ⟨g, 0, none⟩) n cap) n (wlCells ws)) (hl : ws.length = n) :
    ∀ (j : Nat) u, (wlCells ws)[j]? = some u → w.cell? ((⟨g, 0, none⟩ : Addr).add j) = some u := by
  intro j u hu
  have hj : j < n * 9 := by
    have := (List.getElem?_eq_some_iff.1 hu).1
    rw [wlCells_len, hl] at this
    exact this
  rw [Addr.add_lit, Nat.zero_add, h.cellAt j hj, hu]

set_option maxRecDepth 100000 in
set_option maxHeartbeats 2000000 in
theorem l91Design_ok (R N : Nat) (w : World) (hR : Rd w R N) (hN : N ≤ 800000) :
    Calls Try.prog 103 #[.pointer (some ⟨R, 0, none⟩)] w (DrWl 12 42 w R N) := by
  obtain ⟨i0, hi, hz0, hz1, hz2⟩ := info_parts Try.infoW
  have hRlt := rd_lt hR
  go_enter Try.func103, Try.ntmps103
  go_wp2_with fail
  have hb0 : Below w.heap.size w (w.alloc (.cells #[] 124)) := kept_new _ _
  have ho0 : (w.alloc (.cells #[] 124)).ownsRow w.heap.size 124 9 (.slice (some ⟨w.heap.size, 0, none⟩) 0 0) 0 [] := by
    simpa using World.ownsRow_lit (base := w.heap.size) (e := 124) (size := 9) w #[] 0 (Nat.le_refl _) (by decide) (by simp)
  have hR0 := rd_kept hR hb0
  have hg0 := grown_of_kept hb0 (some R)
  generalize w.alloc (.cells #[] 124) = wa at *
  refine (pick_ok R N 4 _ hR0 (by omega) (by decide)).mono ?_
  rintro e w1 ⟨n, rfl, hn, hR1, hg1⟩
  have ho1 := ho0.kept hg1 (rd_apart hR ho0)
  have hg01 := grown_trans' hg0 hg1
  have hn4 : n < 4 := by omega
  clear hb0 hR0 hg0 hg1 ho0 hn
  go_wp2_with fail
  go_loopw [3, 5] (fun v i wr => ∃ (t g cap : Nat) (ws : List W9), t ≤ n ∧ i = .int .i64 t ∧ v = .slice (some ⟨g, 0, none⟩) t cap ∧ wr.ownsRow w.heap.size 124 9 (.slice (some ⟨g, 0, none⟩) t cap) t (wlCells ws) ∧ ws.length = t ∧ Rd wr R (N + 1 + 13 * t) ∧ w.grownBy wr (some R)) (fun _ i _ => n - (intOf i).toNat)
  case atStart => exact ⟨0, _, _, [], by omega, rfl, rfl, ho1, rfl, hR1, hg01⟩
  case round =>
    obtain ⟨t, g, cap, ws, ht, rfl, rfl, ho, hl, hRr, hgr⟩ := hrel
    clear ho1 hR1 hg01
    by_cases hlt : t < n
    · have hlt' : (t : Int) < (n : Int) := by omega
      go_wp2_with fail
      refine (pick_ok R _ 13 _ hRr (by omega) (by decide)).mono ?_
      rintro e w2 ⟨s, rfl, hs, hR2, hg2⟩
      have ho2 := ho.kept hg2 (rd_apart hR ho)
      have hg02 := grown_trans' hgr hg2
      have hs13 : s < 13 := by omega
      clear ho hg2 hgr hRr hs
      go_wp2_with fail
      refine (l91Cyc_ok R _ _ hR2 (by omega)).mono ?_
      rintro e w3 ⟨x, rfl, hR3, hg3⟩
      have ho3 := ho2.kept hg3 (rd_apart hR ho2)
      have hg03 := grown_trans' hg02 hg3
      have hsz3 := hg03.size
      clear ho2 hg3 hg02 hR2
      rw [val_spell]
      go_wp2_with (at_builtin; refine wpList_append_one w3 rfl _ _ 110 rfl w.heap.size 124 i0 _ 9 72 Try.underlying110 hi hz0 hz1 hz2 rfl (by decide) _ _ _ rfl ho3 (⟨(s : Int) - 6, x⟩ : W9).cells _ _ rfl rfl (by simp [Value.oneCell', W9.cells]) (by omega) (by decide) hsz3 rfl (by simp) ?_)
      intro g6 cap6 w6 ho6 hg6 hr6
      have hR6 := rd_grown hR3 hg6 (fun k hk => Nat.lt_of_lt_of_le hRlt (hr6 k hk))
      have hg06 := grown_new hg03 hg6 hr6
      clear ho3 hg6 hr6 hR3 hg03
      go_wp2_with fail
      go_roundw
      case rel => exact ⟨t + 1, g6, cap6, ws ++ [⟨(s : Int) - 6, x⟩], by omega, by go_num, rfl, by simpa [wlCells_app, wlCells_one1] using ho6, by simp; omega, rd_more hR6 (by omega), hg06⟩
      case measure => simp [intOf]; omega
    · obtain rfl : t = n := by omega
      go_wp2_with fail
      refine (pick_ok R _ 30 _ hRr (by omega) (by decide)).mono ?_
      rintro e w5 ⟨c, rfl, hc, hR5, hg5⟩
      have ho5 := ho.kept hg5 (rd_apart hR ho)
      have hg05 := grown_trans' hgr hg5
      have hsz5 := hg05.size
      clear ho hg5 hgr hc hRr
      by_cases hc0 : (c : Int) = 0
      · go_wp2_with (at_builtin; refine wpList_append_one w5 rfl _ _ 110 rfl w.heap.size 124 i0 _ 9 72 Try.underlying110 hi hz0 hz1 hz2 rfl (by decide) _ _ _ rfl ho5 (⟨1001, zero8⟩ : W9).cells _ _ rfl rfl (by simp [Value.oneCell', W9.cells]) (by omega) (by decide) hsz5 rfl (by simp) ?_)
        intro g6 cap6 w6 ho6 hg6 hr6
        have hR6 := rd_grown hR5 hg6 (fun k hk => Nat.lt_of_lt_of_le hRlt (hr6 k hk))
        have hg06 := grown_new hg05 hg6 hr6
        have hh6 := has_owns ho6
        clear ho5 ho6 hg6 hr6 hR5 hg05
        go_wp2_with fail
        go_ret
        exact ⟨_, ws ++ [⟨1001, zero8⟩], rfl, by simpa [wlCells_app, wlCells_one1, hl] using hh6, by simp; omega, rd_more hR6 (by omega), hg06⟩
      · by_cases hc1 : (c : Int) = 1
        · go_wp2_with (at_builtin; refine wpList_append_any rfl _ _ 110 rfl w.heap.size 124 i0 _ 9 72 Try.underlying110 hi hz0 hz1 hz2 rfl (by decide) _ _ _ _ rfl ho5 _ t _ (wlCells ws) rfl (by rw [wlCells_len, hl]) (news_self ho5 hl) (wlCells_one ws) (by omega) (by decide) hsz5 (t + t) rfl (wlCells (ws ++ ws)) (wlCells_app ws ws).symm ?_)
          intro g6 cap6 w6 ho6 hg6 _ hr6
          have hR6 := rd_grown hR5 hg6 (fun k hk => by cases hk; exact Nat.lt_of_lt_of_le hRlt hr6)
          have hg06 := grown_new hg05 hg6 (fun k hk => by cases hk; exact hr6)
          have hsz6 := hg06.size
          have hl6 : (ws ++ ws).length = t + t := by simp [hl]
          clear ho5 hg6 hr6 hR5 hg05
          go_wp2_with (at_builtin; refine wpList_append_any rfl _ _ 110 rfl w.heap.size 124 i0 _ 9 72 Try.underlying110 hi hz0 hz1 hz2 rfl (by decide) _ _ _ _ rfl ho6 _ (t + t) _ (wlCells (ws ++ ws)) rfl (by rw [wlCells_len, hl6]) (news_self ho6 hl6) (wlCells_one _) (by omega) (by decide) hsz6 (t + t + (t + t)) rfl (wlCells (ws ++ ws ++ (ws ++ ws))) (wlCells_app _ _).symm ?_)
          intro g7 cap7 w7 ho7 hg7 _ hr7
          have hR7 := rd_grown hR6 hg7 (fun k hk => by cases hk; exact Nat.lt_of_lt_of_le hRlt hr7)
          have hg07 := grown_new hg06 hg7 (fun k hk => by cases hk; exact hr7)
          have hl7 : (ws ++ ws ++ (ws ++ ws)).length = t + t + (t + t) := by simp [hl]; omega
          have hh7 : Has w7 w.heap.size 9 (.slice (some ⟨g7, 0, none⟩) (t + t + (t + t) : Nat) cap7) (ws ++ ws ++ (ws ++ ws)).length (wlCells (ws ++ ws ++ (ws ++ ws))) := by
            rw [hl7]
            simpa only [List.append_assoc] using has_owns ho7
          clear ho6 ho7 hg7 hr7 hR6 hg06
          go_wp2_with fail
          go_ret
          exact ⟨_, ws ++ ws ++ (ws ++ ws), rfl, hh7, by rw [hl7]; omega, rd_more hR7 (by omega), hg07⟩
        · have hh5 := has_owns ho5
          clear ho5
          go_wp2_with fail
          go_ret
          exact ⟨_, ws, rfl, by rw [hl]; exact hh5, by omega, rd_more hR5 (by omega), hg05⟩

theorem ring_len (r q p : Int) (i : Bool) : (ringRes r q p i).1.length ≤ 12 := by
  unfold ringRes
  split
  · unfold tidyRes doneW
    split
    · rename_i h
      exact (designB_small h.2).1
    · simp
  · simp

def AnyRing (w : World) (e : Ending) (w' : World) : Prop :=
  ∃ (v : Value) (ws : List W9) (ok : Bool), e = .returned (.tuple #[v, .bool ok]) ∧ Has w' w.heap.size 9 v ws.length (wlCells ws) ∧ ws.length ≤ 12 ∧ Below w.heap.size w w'

theorem ringAny_ok (r q p : Int) (i : Bool) (w : World) : Calls Try.prog 104 #[.int .i64 r, .int .i64 q, .bool i, .int .i64 p] w (AnyRing w) :=
  (ringSpec_ok r q p i w).mono fun _ _ ⟨v, he, hh, hb⟩ => ⟨v, _, _, he, hh, ring_len r q p i, hb⟩

set_option maxRecDepth 100000 in
set_option maxHeartbeats 4000000 in
theorem l92Design_ok (R N : Nat) (w : World) (hR : Rd w R N) (hN : N ≤ 700000) :
    Calls Try.prog 93 #[.pointer (some ⟨R, 0, none⟩)] w (DrWl 12 60 w R N) := by
  obtain ⟨i0, hi, hz0, hz1, hz2⟩ := info_parts Try.infoW
  have hRlt := rd_lt hR
  go_enter Try.func93, Try.ntmps93
  go_wp2_with fail
  refine (pick_ok R N 4 _ hR (by omega) (by decide)).mono ?_
  rintro e w1 ⟨k, rfl, hk, hR1, hg1⟩
  by_cases hk0 : (k : Int) = 0
  · go_wp2_with fail
    refine (l91Design_ok R _ _ hR1 (by omega)).mono ?_
    rintro e w2 ⟨v, ws, rfl, hh, hl, hR2, hg2⟩
    have hh2 := has_base hh hg1.size
    have hg02 := grown_trans' hg1 hg2
    go_wp2_with fail
    go_ret
    exact ⟨_, ws, rfl, hh2, hl, rd_more hR2 (by omega), hg02⟩
  · by_cases hk1 : (k : Int) = 1
    · clear hk
      go_wp2_with fail
      refine (pick_ok R _ 30 _ hR1 (by omega) (by decide)).mono ?_
      rintro e w2 ⟨a, rfl, ha, hR2, hg2⟩
      have hg02 := grown_trans' hg1 hg2
      have ha' : a < 30 := by omega
      clear hR1 hg1 hg2 ha
      go_wp2_with fail
      refine (pick_ok R _ 12 _ hR2 (by omega) (by decide)).mono ?_
      rintro e w3 ⟨b, rfl, hb, hR3, hg3⟩
      have hg03 := grown_trans' hg02 hg3
      have hb' : b < 12 := by omega
      clear hR2 hg02 hg3 hb
      go_wp2_with fail
      refine (pick_ok R _ 2 _ hR3 (by omega) (by decide)).mono ?_
      rintro e w4 ⟨c, rfl, hc, hR4, hg4⟩
      have hg04 := grown_trans' hg03 hg4
      clear hR3 hg03 hg4 hc
      go_wp2_with fail
      refine (pick_ok R _ 20 _ hR4 (by omega) (by decide)).mono ?_
      rintro e w5 ⟨d, rfl, hd, hR5, hg5⟩
      have hg05 := grown_trans' hg04 hg5
      have hd' : d < 20 := by omega
      clear hR4 hg04 hg5 hd
      go_wp2_with fail
      refine (ringAny_ok _ _ _ _ _).mono ?_
      rintro e w6 ⟨v, ws, ok, rfl, hh, hl, hb6⟩
      have hR6 := rd_kept hR5 hb6
      have hg06 := grown_kept hg05 hb6
      have hh6 := has_base hh hg05.size
      clear hR5 hg05 hb6 hh
      cases ok
      · clear hh6 hl
        go_wp2_with fail
        refine (pick_ok R _ 4 _ hR6 (by omega) (by decide)).mono ?_
        rintro e w21 ⟨st, rfl, hst, hR21, hg21⟩
        have hg021 := grown_trans' hg06 hg21
        have hst : st < 4 := by omega
        clear hR6 hg21 hg06
        go_wp2_with fail
        refine (pick_ok R _ 5 _ hR21 (by omega) (by decide)).mono ?_
        rintro e w22 ⟨fs, rfl, hfs, hR22, hg22⟩
        have hg022 := grown_trans' hg021 hg22
        have hfs : fs < 5 := by omega
        clear hR21 hg22 hg021
        go_wp2_with fail
        have hsz22 := hg022.size
        have hb23 : Below w22.heap.size w22 (w22.alloc (.cells #[] 124)) := kept_new _ _
        have ho23 : (w22.alloc (.cells #[] 124)).ownsRow w.heap.size 124 9 (.slice (some ⟨w22.heap.size, 0, none⟩) 0 0) 0 [] := by
          simpa using World.ownsRow_lit (base := w.heap.size) (e := 124) (size := 9) w22 #[] 0 hsz22 (by decide) (by simp)
        have hR23 := rd_kept hR22 hb23
        have hg023 := grown_kept hg022 hb23
        generalize w22.alloc (.cells #[] 124) = w23 at *
        generalize w22.heap.size = b22 at *
        clear hb23 hR22 hg022 hsz22
        refine (pick_ok R _ 3 _ hR23 (by omega) (by decide)).mono ?_
        rintro e w24 ⟨m, rfl, hm, hR24, hg24⟩
        have ho24 := ho23.kept hg24 (rd_apart hR ho23)
        have hg024 := grown_trans' hg023 hg24
        have hm3 : m < 3 := by omega
        clear hR23 hg023 hg24 ho23 hm
        go_wp2_with fail
        go_loopw [7, 9] (fun v i wr => ∃ (t g cap : Nat) (ws : List W9), t ≤ m + 1 ∧ i = .int .i64 t ∧ v = .slice (some ⟨g, 0, none⟩) t cap ∧ wr.ownsRow w.heap.size 124 9 (.slice (some ⟨g, 0, none⟩) t cap) t (wlCells ws) ∧ ws.length = t ∧ Rd wr R (N + 9 + 13 * t) ∧ w.grownBy wr (some R)) (fun _ i _ => m + 1 - (intOf i).toNat)
        case atStart => exact ⟨0, _, _, [], by omega, rfl, rfl, ho24, rfl, rd_more hR24 (by omega), hg024⟩
        case round =>
          obtain ⟨t, g, cap, ws, ht, rfl, rfl, ho, hl, hRr, hgr⟩ := hrel
          clear ho24 hR24 hg024
          by_cases hlt : t < m + 1
          · have hlt' : (t : Int) < 1 + (m : Int) := by omega
            go_wp2_with fail
            refine (pick_ok R _ 5 _ hRr (by omega) (by decide)).mono ?_
            rintro e w25 ⟨s, rfl, hs, hR25, hg25⟩
            have ho25 := ho.kept hg25 (rd_apart hR ho)
            have hg025 := grown_trans' hgr hg25
            have hs5 : s < 5 := by omega
            clear ho hg25 hgr hRr hs
            have hmul : -8 ≤ (1 + (st : Int)) * ((s : Int) - 2) ∧ (1 + (st : Int)) * ((s : Int) - 2) ≤ 8 := by
              have q1 : st = 0 ∨ st = 1 ∨ st = 2 ∨ st = 3 := by omega
              rcases q1 with rfl | rfl | rfl | rfl <;> omega
            go_wp2_with fail
            refine (l91Cyc_ok R _ _ hR25 (by omega)).mono ?_
            rintro e w26 ⟨x, rfl, hR26, hg26⟩
            have ho26 := ho25.kept hg26 (rd_apart hR ho25)
            have hg026 := grown_trans' hg025 hg26
            have hsz26 := hg026.size
            clear ho25 hg26 hg025 hR25
            rw [val_spell]
            go_wp2_with (at_builtin; refine wpList_append_one w26 rfl _ _ 110 rfl w.heap.size 124 i0 _ 9 72 Try.underlying110 hi hz0 hz1 hz2 rfl (by decide) _ _ _ rfl ho26 (⟨(fs : Int) - 2 + (1 + (st : Int)) * ((s : Int) - 2), x⟩ : W9).cells _ _ rfl rfl (by simp [Value.oneCell', W9.cells]) (by omega) (by decide) hsz26 rfl (by simp) ?_)
            intro g6 cap6 w6 ho6 hg6 hr6
            have hR6 := rd_grown hR26 hg6 (fun k hk => Nat.lt_of_lt_of_le hRlt (hr6 k hk))
            have hg06 := grown_new hg026 hg6 hr6
            clear ho26 hg6 hr6 hR26 hg026
            go_wp2_with fail
            go_roundw
            case rel => exact ⟨t + 1, g6, cap6, ws ++ [⟨(fs : Int) - 2 + (1 + (st : Int)) * ((s : Int) - 2), x⟩], by omega, by go_num, rfl, by simpa [wlCells_app, wlCells_one1] using ho6, by simp; omega, rd_more hR6 (by omega), hg06⟩
            case measure => simp [intOf]; omega
          · obtain rfl : t = m + 1 := by omega
            have hh := has_owns ho
            clear ho
            go_wp2_with fail
            go_ret
            exact ⟨_, ws, rfl, by rw [hl]; exact hh, by omega, rd_more hRr (by omega), hgr⟩
      · go_wp2_with fail
        go_ret
        exact ⟨_, ws, rfl, hh6, hl, rd_more hR6 (by omega), hg06⟩
    · clear hk
      go_wp2_with fail
      refine (pick_ok R _ 4 _ hR1 (by omega) (by decide)).mono ?_
      rintro e w21 ⟨st, rfl, hst, hR21, hg21⟩
      have hg021 := grown_trans' hg1 hg21
      have hst : st < 4 := by omega
      clear hR1 hg21 hg1
      go_wp2_with fail
      refine (pick_ok R _ 5 _ hR21 (by omega) (by decide)).mono ?_
      rintro e w22 ⟨fs, rfl, hfs, hR22, hg22⟩
      have hg022 := grown_trans' hg021 hg22
      have hfs : fs < 5 := by omega
      clear hR21 hg22 hg021
      go_wp2_with fail
      have hsz22 := hg022.size
      have hb23 : Below w22.heap.size w22 (w22.alloc (.cells #[] 124)) := kept_new _ _
      have ho23 : (w22.alloc (.cells #[] 124)).ownsRow w.heap.size 124 9 (.slice (some ⟨w22.heap.size, 0, none⟩) 0 0) 0 [] := by
        simpa using World.ownsRow_lit (base := w.heap.size) (e := 124) (size := 9) w22 #[] 0 hsz22 (by decide) (by simp)
      have hR23 := rd_kept hR22 hb23
      have hg023 := grown_kept hg022 hb23
      generalize w22.alloc (.cells #[] 124) = w23 at *
      generalize w22.heap.size = b22 at *
      clear hb23 hR22 hg022 hsz22
      refine (pick_ok R _ 3 _ hR23 (by omega) (by decide)).mono ?_
      rintro e w24 ⟨m, rfl, hm, hR24, hg24⟩
      have ho24 := ho23.kept hg24 (rd_apart hR ho23)
      have hg024 := grown_trans' hg023 hg24
      have hm3 : m < 3 := by omega
      clear hR23 hg023 hg24 ho23 hm
      go_wp2_with fail
      go_loopw [7, 9] (fun v i wr => ∃ (t g cap : Nat) (ws : List W9), t ≤ m + 1 ∧ i = .int .i64 t ∧ v = .slice (some ⟨g, 0, none⟩) t cap ∧ wr.ownsRow w.heap.size 124 9 (.slice (some ⟨g, 0, none⟩) t cap) t (wlCells ws) ∧ ws.length = t ∧ Rd wr R (N + 9 + 13 * t) ∧ w.grownBy wr (some R)) (fun _ i _ => m + 1 - (intOf i).toNat)
      case atStart => exact ⟨0, _, _, [], by omega, rfl, rfl, ho24, rfl, rd_more hR24 (by omega), hg024⟩
      case round =>
        obtain ⟨t, g, cap, ws, ht, rfl, rfl, ho, hl, hRr, hgr⟩ := hrel
        clear ho24 hR24 hg024
        by_cases hlt : t < m + 1
        · have hlt' : (t : Int) < 1 + (m : Int) := by omega
          go_wp2_with fail
          refine (pick_ok R _ 5 _ hRr (by omega) (by decide)).mono ?_
          rintro e w25 ⟨s, rfl, hs, hR25, hg25⟩
          have ho25 := ho.kept hg25 (rd_apart hR ho)
          have hg025 := grown_trans' hgr hg25
          have hs5 : s < 5 := by omega
          clear ho hg25 hgr hRr hs
          have hmul : -8 ≤ (1 + (st : Int)) * ((s : Int) - 2) ∧ (1 + (st : Int)) * ((s : Int) - 2) ≤ 8 := by
            have q1 : st = 0 ∨ st = 1 ∨ st = 2 ∨ st = 3 := by omega
            rcases q1 with rfl | rfl | rfl | rfl <;> omega
          go_wp2_with fail
          refine (l91Cyc_ok R _ _ hR25 (by omega)).mono ?_
          rintro e w26 ⟨x, rfl, hR26, hg26⟩
          have ho26 := ho25.kept hg26 (rd_apart hR ho25)
          have hg026 := grown_trans' hg025 hg26
          have hsz26 := hg026.size
          clear ho25 hg26 hg025 hR25
          rw [val_spell]
          go_wp2_with (at_builtin; refine wpList_append_one w26 rfl _ _ 110 rfl w.heap.size 124 i0 _ 9 72 Try.underlying110 hi hz0 hz1 hz2 rfl (by decide) _ _ _ rfl ho26 (⟨(fs : Int) - 2 + (1 + (st : Int)) * ((s : Int) - 2), x⟩ : W9).cells _ _ rfl rfl (by simp [Value.oneCell', W9.cells]) (by omega) (by decide) hsz26 rfl (by simp) ?_)
          intro g6 cap6 w6 ho6 hg6 hr6
          have hR6 := rd_grown hR26 hg6 (fun k hk => Nat.lt_of_lt_of_le hRlt (hr6 k hk))
          have hg06 := grown_new hg026 hg6 hr6
          clear ho26 hg6 hr6 hR26 hg026
          go_wp2_with fail
          go_roundw
          case rel => exact ⟨t + 1, g6, cap6, ws ++ [⟨(fs : Int) - 2 + (1 + (st : Int)) * ((s : Int) - 2), x⟩], by omega, by go_num, rfl, by simpa [wlCells_app, wlCells_one1] using ho6, by simp; omega, rd_more hR6 (by omega), hg06⟩
          case measure => simp [intOf]; omega
        · obtain rfl : t = m + 1 := by omega
          have hh := has_owns ho
          clear ho
          go_wp2_with fail
          go_ret
          exact ⟨_, ws, rfl, by rw [hl]; exact hh, by omega, rd_more hRr (by omega), hgr⟩

def DrDesign (w : World) (e : Ending) (w' : World) : Prop :=
  ∃ v ws, e = .returned v ∧ Has w' w.heap.size 9 v ws.length (wlCells ws) ∧ ws.length ≤ 12 ∧ Below w.heap.size w w'


end Go.Proofs.Ytnlmiemnblppbaa
