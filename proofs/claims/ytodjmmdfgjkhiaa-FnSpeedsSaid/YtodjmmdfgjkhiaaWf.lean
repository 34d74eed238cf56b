/-
  DesignFold and DesignPeriod, of the program and of the reference.
-/
import Derived.Test.YtodjmmdfgjkhiaaWch
import Derived.Test.YtodjmmdfgjkhiaaGcd
namespace Go.Proofs.Ytodjmmdfgjkhiaa
open Go.RowKit

def gcdFrom (d : Int) (g : Int) (ts : List W9) : Int := ts.foldl (fun g x => (Int.gcd g (x.s - d) : Int)) g
def headS (ts : List W9) : Int := match ts with | [] => 0 | x :: _ => x.s
def periodRes (ws : List W9) : Int := if (tidyDes ws).2 = true then gcdFrom 0 0 (tidyDes ws).1 else -1
def foldRes (ws : List W9) : Int := if (tidyDes ws).2 = true then gcdFrom (headS (tidyDes ws).1) 0 (tidyDes ws).1 else -1

theorem tidyDes_ok (ws : List W9) : (tidyDes ws).1.length ≤ 12 ∧ ∀ y ∈ (tidyDes ws).1, -1000 ≤ y.s ∧ y.s ≤ 1000 ∧ y.c.smallB 1000000 = true := by
  unfold tidyDes
  split
  · unfold tidyRes doneW
    split
    · rename_i h
      have h2 := h.2
      simp only [designB, Bool.and_eq_true, decide_eq_true_eq, List.all_eq_true] at h2
      exact ⟨h2.1, fun y hy => okB_t (h2.2 y hy)⟩
    · simp
  · simp

theorem gcd_bd {g s : Int} (h1 : 0 ≤ g ∧ g ≤ 2000) (h2 : -2000 ≤ s ∧ s ≤ 2000) : 0 ≤ (Int.gcd g s : Int) ∧ (Int.gcd g s : Int) ≤ 2000 := by
  refine ⟨by omega, ?_⟩
  rcases Int.lt_or_le 0 g with h | h
  · have := Int.gcd_le_left (a := g) s h; omega
  · obtain rfl : g = 0 := by omega
    rw [Int.gcd_zero_left]; omega

theorem gcdFrom_succ (d g : Int) (ts : List W9) (t : Nat) (h : t < ts.length) : gcdFrom d g (ts.take (t + 1)) = (Int.gcd (gcdFrom d g (ts.take t)) ((ts[t]).s - d) : Int) := by
  rw [List.take_succ_eq_append_getElem h]
  unfold gcdFrom
  rw [List.foldl_append]
  rfl

set_option maxRecDepth 100000 in
set_option maxHeartbeats 1000000 in
theorem periodImpl_ok (v : Value) (ws : List W9) (w : World) (hr : Reads w 9 v ws.length (wlCells ws)) (hn : ws.length ≤ 1048576) :
    Calls Try.prog 18 #[v] w fun e w' => e = .returned (.int .i64 (periodRes ws)) ∧ Below w.heap.size w w' := by
  have himp := tidyImpl_ok v ws w hr hn
  obtain ⟨htl, hts⟩ := tidyDes_ok ws
  have Hres : Hid (periodRes ws = if (tidyDes ws).2 = true then gcdFrom 0 0 (tidyDes ws).1 else -1) := rfl
  unfold WlPost at himp
  generalize tidyDes ws = r at himp htl hts Hres
  obtain ⟨ts, ok⟩ := r
  dsimp only at himp htl hts Hres
  have Hts := hide hts
  clear hts hr
  cases ok
  · have Hfin : Hid (periodRes ws = -1) := Hres.out
    go_enter Try.func18, Try.ntmps18
    go_wp2_with fail
    refine himp.mono ?_
    rintro e w1 ⟨v1, rfl, hh, hb1⟩
    clear himp
    go_wp2_with fail
    go_ret
    exact ⟨by rw [Hfin.out]; rfl, hb1⟩
  · have Hfin : Hid (periodRes ws = gcdFrom 0 0 ts) := Hres.out
    clear Hres
    go_enter Try.func18, Try.ntmps18
    go_wp2_with fail
    refine himp.mono ?_
    rintro e w1 ⟨v1, rfl, hh, hb1⟩
    clear himp
    obtain ⟨_, hm, A, c, rfl, hc⟩ := has_reads hh
    clear hh
    go_wp2_with fail
    go_loopw [5, 7, 17] (fun g _ i wr => ∃ t : Nat, t ≤ ts.length ∧ i = .int .i64 t ∧ g = .int .i64 (gcdFrom 0 0 (ts.take t)) ∧ (0 ≤ gcdFrom 0 0 (ts.take t) ∧ gcdFrom 0 0 (ts.take t) ≤ 2000) ∧ Below w1.heap.size w1 wr) (fun _ _ i _ => ts.length - (intOf i).toNat)
    case atStart => exact ⟨0, by omega, rfl, rfl, by simp [gcdFrom], Below.refl _ _⟩
    case round =>
      obtain ⟨t, ht, rfl, rfl, hg, hb⟩ := hrel
      by_cases hlt : t < ts.length
      · obtain ⟨b, o, rfl, hbl, hcell⟩ := hc (by omega) (by omega)
        have hA := wl_cells (below_cells hb hbl hcell) t hlt
        have hs := Hts.out _ (List.getElem_mem hlt)
        have hstep := gcdFrom_succ 0 0 ts t hlt
        clear hcell hc
        generalize ts[t] = m at hA hs hstep
        rw [Int.sub_zero] at hstep
        generalize gcdFrom 0 0 (ts.take t) = g at hg hstep ⊢
        have hgb := gcd_bd hg (s := m.s) ⟨by omega, by omega⟩
        have Hstep := hide hstep
        have Hgb := hide hgb
        have Hg := hide hg
        have Hs := hide hs
        clear hstep hgb hg hs
        obtain ⟨p0, p1, p2, p3, p4, p5, p6, p7, p8⟩ := hA
        go_wp2_with fail
        refine (divisor_b g m.s _ (by have := Hg.out; omega) (by have := Hs.out; omega)).mono ?_
        rintro e w2 ⟨rfl, hb2⟩
        go_wp2_with fail
        go_roundw
        case rel => exact ⟨t + 1, by omega, by go_num, by rw [Hstep.out], by rw [Hstep.out]; exact Hgb.out, kept_trans (kept_alloc hb _) hb2⟩
        case measure => simp [intOf]; omega
      · obtain rfl : t = ts.length := by omega
        rw [List.take_length] at *
        go_wp2_with fail
        go_ret
        exact ⟨by rw [Hfin.out]; rfl, kept_trans hb1 hb⟩

set_option maxRecDepth 100000 in
set_option maxHeartbeats 1000000 in
theorem periodSpec_ok (v : Value) (ws : List W9) (w : World) (hr : Reads w 9 v ws.length (wlCells ws)) (hn : ws.length ≤ 1048576) :
    Calls Try.prog 17 #[v] w fun e w' => e = .returned (.int .i64 (periodRes ws)) ∧ Below w.heap.size w w' := by
  have himp := tidySpec_ok v ws w hr hn
  obtain ⟨htl, hts⟩ := tidyDes_ok ws
  have Hres : Hid (periodRes ws = if (tidyDes ws).2 = true then gcdFrom 0 0 (tidyDes ws).1 else -1) := rfl
  unfold WlPost at himp
  generalize tidyDes ws = r at himp htl hts Hres
  obtain ⟨ts, ok⟩ := r
  dsimp only at himp htl hts Hres
  have Hts := hide hts
  clear hts hr
  cases ok
  · have Hfin : Hid (periodRes ws = -1) := Hres.out
    go_enter Try.func17, Try.ntmps17
    go_wp2_with fail
    refine himp.mono ?_
    rintro e w1 ⟨v1, rfl, hh, hb1⟩
    clear himp
    go_wp2_with fail
    go_ret
    exact ⟨by rw [Hfin.out]; rfl, hb1⟩
  · have Hfin : Hid (periodRes ws = gcdFrom 0 0 ts) := Hres.out
    clear Hres
    go_enter Try.func17, Try.ntmps17
    go_wp2_with fail
    refine himp.mono ?_
    rintro e w1 ⟨v1, rfl, hh, hb1⟩
    clear himp
    obtain ⟨_, hm, A, c, rfl, hc⟩ := has_reads hh
    clear hh
    go_wp2_with fail
    go_loop [5, 6] (fun g i => ∃ t : Nat, t ≤ ts.length ∧ i = .int .i64 t ∧ g = .int .i64 (gcdFrom 0 0 (ts.take t)) ∧ (0 ≤ gcdFrom 0 0 (ts.take t) ∧ gcdFrom 0 0 (ts.take t) ≤ 2000)) (fun _ i => ts.length - (intOf i).toNat)
    case atStart => exact ⟨0, by omega, rfl, rfl, by simp [gcdFrom]⟩
    case round =>
      obtain ⟨t, ht, rfl, rfl, hg⟩ := hrel
      by_cases hlt : t < ts.length
      · obtain ⟨b, o, rfl, hbl, hcell⟩ := hc (by omega) (by omega)
        have hA := wl_cells hcell t hlt
        have hs := Hts.out _ (List.getElem_mem hlt)
        have hstep := gcdFrom_succ 0 0 ts t hlt
        clear hcell hc
        generalize ts[t] = m at hA hs hstep
        rw [Int.sub_zero] at hstep
        generalize gcdFrom 0 0 (ts.take t) = g at hg hstep ⊢
        have hgb := gcd_bd hg (s := m.s) ⟨by omega, by omega⟩
        have Hstep := hide hstep
        have Hgb := hide hgb
        have Hg := hide hg
        have Hs := hide hs
        clear hstep hgb hg hs
        obtain ⟨p0, p1, p2, p3, p4, p5, p6, p7, p8⟩ := hA
        go_wp2_with fail
        refine (l1Gcd_ok g m.s _ (by have := Hg.out; omega) (by have := Hs.out; omega)).mono ?_
        rintro e w2 ⟨rfl, rfl⟩
        go_wp2_with fail
        go_round
        case rel => exact ⟨t + 1, by omega, by go_num, by rw [Hstep.out], by rw [Hstep.out]; exact Hgb.out⟩
        case measure => simp [intOf]; omega
      · obtain rfl : t = ts.length := by omega
        rw [List.take_length] at *
        go_wp2_with fail
        go_ret
        exact ⟨by rw [Hfin.out]; rfl, hb1⟩

theorem gcdFrom_head (ts : List W9) (h : 0 < ts.length) : gcdFrom (headS ts) 0 (ts.take 1) = 0 := by
  cases ts with
  | nil => simp at h
  | cons x xs => simp [gcdFrom, headS]

theorem headS_get (ts : List W9) (h : 0 < ts.length) : headS ts = (ts[0]).s := by
  cases ts with
  | nil => simp at h
  | cons x xs => rfl

set_option maxRecDepth 100000 in
set_option maxHeartbeats 2000000 in
theorem foldSpec_ok (v : Value) (ws : List W9) (w : World) (hr : Reads w 9 v ws.length (wlCells ws)) (hn : ws.length ≤ 1048576) :
    Calls Try.prog 15 #[v] w fun e w' => e = .returned (.int .i64 (foldRes ws)) ∧ Below w.heap.size w w' := by
  have himp := tidySpec_ok v ws w hr hn
  obtain ⟨htl, hts⟩ := tidyDes_ok ws
  have Hres : Hid (foldRes ws = if (tidyDes ws).2 = true then gcdFrom (headS (tidyDes ws).1) 0 (tidyDes ws).1 else -1) := rfl
  unfold WlPost at himp
  generalize tidyDes ws = r at himp htl hts Hres
  obtain ⟨ts, ok⟩ := r
  dsimp only at himp htl hts Hres
  have Hts := hide hts
  clear hts hr
  cases ok
  · have Hfin : Hid (foldRes ws = -1) := Hres.out
    go_enter Try.func15, Try.ntmps15
    go_wp2_with fail
    refine himp.mono ?_
    rintro e w1 ⟨v1, rfl, hh, hb1⟩
    clear himp
    go_wp2_with fail
    go_ret
    exact ⟨by rw [Hfin.out]; rfl, hb1⟩
  · have Hfin : Hid (foldRes ws = gcdFrom (headS ts) 0 ts) := Hres.out
    clear Hres
    go_enter Try.func15, Try.ntmps15
    go_wp2_with fail
    refine himp.mono ?_
    rintro e w1 ⟨v1, rfl, hh, hb1⟩
    clear himp
    obtain ⟨_, hm, A, c, rfl, hc⟩ := has_reads hh
    clear hh
    go_wp2_with fail
    go_loopw [5, 6] (fun g i wr => ∃ t : Nat, 1 ≤ t ∧ (t ≤ ts.length ∨ t = 1) ∧ i = .int .i64 t ∧ g = .int .i64 (gcdFrom (headS ts) 0 (ts.take t)) ∧ (0 ≤ gcdFrom (headS ts) 0 (ts.take t) ∧ gcdFrom (headS ts) 0 (ts.take t) ≤ 2000) ∧ Below w1.heap.size w1 wr) (fun _ i _ => ts.length - (intOf i).toNat)
    case atStart =>
      have e : gcdFrom (headS ts) 0 (ts.take 1) = 0 := by
        cases ts with
        | nil => rfl
        | cons x xs => exact gcdFrom_head _ (by simp)
      exact ⟨1, by omega, .inr rfl, rfl, by rw [e], by rw [e]; omega, Below.refl _ _⟩
    case round =>
      obtain ⟨t, ht1, ht, rfl, rfl, hg, hb⟩ := hrel
      by_cases hlt : t < ts.length
      · obtain ⟨b, o, rfl, hbl, hcell⟩ := hc (by omega) (by omega)
        have hA := wl_cells (below_cells hb hbl hcell) t hlt
        have hA0 := (wl_cells (below_cells hb hbl hcell) 0 (by omega)).1
        rw [← headS_get ts (by omega)] at hA0
        rw [Nat.zero_mul, Nat.add_zero] at hA0
        have hs := Hts.out _ (List.getElem_mem hlt)
        have hs0 := Hts.out _ (List.getElem_mem (show 0 < ts.length by omega))
        rw [← headS_get ts (by omega)] at hs0
        have hs0 : -1000 ≤ headS ts ∧ headS ts ≤ 1000 := ⟨hs0.1, hs0.2.1⟩
        have hstep := gcdFrom_succ (headS ts) 0 ts t hlt
        clear hcell hc
        generalize ts[t] = m at hA hs hstep
        generalize hd : headS ts = d at *
        generalize gcdFrom d 0 (ts.take t) = g at hg hstep ⊢
        have hgb := gcd_bd hg (s := m.s - d) ⟨by omega, by omega⟩
        have Hstep := hide hstep
        have Hgb := hide hgb
        have Hg := hide hg
        have Hs := hide hs
        have Hs0 := hide hs0
        have Hd := hide hd
        have i1 : IntKind.i64.wrap (m.s - d) = m.s - d := IntWalk.i64_in _ (by omega)
        have i2 : (0 : Int) < (ts.length : Int) := by omega
        have i5 : 0 < ts.length := by omega
        have i3 : (t : Int) < (ts.length : Int) := by omega
        have i4 : (0 : Int) ≤ (t : Int) := by omega
        clear hstep hgb hg hs hs0 hd
        obtain ⟨p0, p1, p2, p3, p4, p5, p6, p7, p8⟩ := hA
        go_wp2_with fail
        go_still_tail 11, (by kernel_rfl)
        go_wp2_with fail
        refine (l1Gcd_ok g (m.s - d) _ (by have := Hg.out; omega) (by have := Hs.out; have := Hs0.out; omega)).mono ?_
        rintro e w2 ⟨rfl, rfl⟩
        go_wp2_with fail
        go_roundw
        case rel => exact ⟨t + 1, by omega, .inl (by omega), by go_num, by rw [Hstep.out], by rw [Hstep.out]; exact Hgb.out, hb.drew⟩
        case measure => simp [intOf]; omega
      · have e : ts.take t = ts := List.take_of_length_le (by omega)
        rw [e] at *
        go_wp2_with fail
        go_ret
        exact ⟨by rw [Hfin.out]; rfl, kept_trans hb1 hb⟩

set_option maxRecDepth 100000 in
set_option maxHeartbeats 2000000 in
theorem foldImpl_ok (v : Value) (ws : List W9) (w : World) (hr : Reads w 9 v ws.length (wlCells ws)) (hn : ws.length ≤ 1048576) :
    Calls Try.prog 16 #[v] w fun e w' => e = .returned (.int .i64 (foldRes ws)) ∧ Below w.heap.size w w' := by
  have himp := tidyImpl_ok v ws w hr hn
  obtain ⟨htl, hts⟩ := tidyDes_ok ws
  have Hres : Hid (foldRes ws = if (tidyDes ws).2 = true then gcdFrom (headS (tidyDes ws).1) 0 (tidyDes ws).1 else -1) := rfl
  unfold WlPost at himp
  generalize tidyDes ws = r at himp htl hts Hres
  obtain ⟨ts, ok⟩ := r
  dsimp only at himp htl hts Hres
  have Hts := hide hts
  clear hts hr
  cases ok
  · have Hfin : Hid (foldRes ws = -1) := Hres.out
    go_enter Try.func16, Try.ntmps16
    go_wp2_with fail
    refine himp.mono ?_
    rintro e w1 ⟨v1, rfl, hh, hb1⟩
    clear himp
    go_wp2_with fail
    go_ret
    exact ⟨by rw [Hfin.out]; rfl, hb1⟩
  · have Hfin : Hid (foldRes ws = gcdFrom (headS ts) 0 ts) := Hres.out
    clear Hres
    go_enter Try.func16, Try.ntmps16
    go_wp2_with fail
    refine himp.mono ?_
    rintro e w1 ⟨v1, rfl, hh, hb1⟩
    clear himp
    obtain ⟨_, hm, A, c, rfl, hc⟩ := has_reads hh
    clear hh
    go_wp2_with fail
    go_loopw [5, 7, 17] (fun g _ i wr => ∃ t : Nat, t ≤ ts.length ∧ i = .int .i64 t ∧ g = .int .i64 (gcdFrom (headS ts) 0 (ts.take t)) ∧ (0 ≤ gcdFrom (headS ts) 0 (ts.take t) ∧ gcdFrom (headS ts) 0 (ts.take t) ≤ 2000) ∧ Below w1.heap.size w1 wr) (fun _ _ i _ => ts.length - (intOf i).toNat)
    case atStart => exact ⟨0, by omega, rfl, rfl, by simp [gcdFrom], Below.refl _ _⟩
    case round =>
      obtain ⟨t, ht, rfl, rfl, hg, hb⟩ := hrel
      by_cases hlt : t < ts.length
      · obtain ⟨b, o, rfl, hbl, hcell⟩ := hc (by omega) (by omega)
        have hA := wl_cells (below_cells hb hbl hcell) t hlt
        have hA0 := (wl_cells (below_cells hb hbl hcell) 0 (by omega)).1
        rw [← headS_get ts (by omega)] at hA0
        rw [Nat.zero_mul, Nat.add_zero] at hA0
        have hbw : b < wr.heap.size := Nat.lt_of_lt_of_le hbl hb.size
        have hs := Hts.out _ (List.getElem_mem hlt)
        have hs0 := Hts.out _ (List.getElem_mem (show 0 < ts.length by omega))
        rw [← headS_get ts (by omega)] at hs0
        have hs0 : -1000 ≤ headS ts ∧ headS ts ≤ 1000 := ⟨hs0.1, hs0.2.1⟩
        have hstep := gcdFrom_succ (headS ts) 0 ts t hlt
        clear hcell hc
        generalize ts[t] = m at hA hs hstep
        generalize hd : headS ts = d at *
        generalize gcdFrom d 0 (ts.take t) = g at hg hstep ⊢
        have hgb := gcd_bd hg (s := m.s - d) ⟨by omega, by omega⟩
        have Hstep := hide hstep
        have Hgb := hide hgb
        have Hg := hide hg
        have Hs := hide hs
        have Hs0 := hide hs0
        have Hd := hide hd
        have i1 : IntKind.i64.wrap (m.s - d) = m.s - d := IntWalk.i64_in _ (by omega)
        have i2 : (0 : Int) < (ts.length : Int) := by omega
        have i5 : 0 < ts.length := by omega
        have i3 : (t : Int) < (ts.length : Int) := by omega
        have i4 : (0 : Int) ≤ (t : Int) := by omega
        clear hstep hgb hg hs hs0 hd
        obtain ⟨p0, p1, p2, p3, p4, p5, p6, p7, p8⟩ := hA
        have hv := blk9_new wr m 49
        have hk2 := kept_new wr (.cells m.arr 49)
        have v0 : (wr.alloc (.cells m.arr 49)).cell? ⟨wr.heap.size, 0, none⟩ = some (.int .i64 m.s) := blk9_cell hv 0 (by omega)
        have v1 := kept_cell hk2 hA0
        have Hk2 := hide (kept_trans hb hk2)
        clear hv hk2
        unfold W9.arr at v0 v1 Hk2
        go_wp2_with fail
        generalize wr.alloc (.cells #[.int .i64 m.s, .int .i64 m.c.a0, .int .i64 m.c.a1, .int .i64 m.c.a2, .int .i64 m.c.a3, .int .i64 m.c.a4, .int .i64 m.c.a5, .int .i64 m.c.a6, .int .i64 m.c.a7] 49) = wv at v0 v1 Hk2 ⊢
        clear p0 p1 p2 p3 p4 p5 p6 p7 p8 hA0
        go_still_tail 8, (by kernel_rfl)
        go_wp2_with fail
        refine (divisor_b g (m.s - d) _ (by have := Hg.out; omega) (by have := Hs.out; have := Hs0.out; omega)).mono ?_
        rintro e w2 ⟨rfl, hb2⟩
        go_wp2_with fail
        go_roundw
        case rel => exact ⟨t + 1, by omega, by go_num, by rw [Hstep.out], by rw [Hstep.out]; exact Hgb.out, kept_trans Hk2.out.drew hb2⟩
        case measure => simp [intOf]; omega
      · obtain rfl : t = ts.length := by omega
        rw [List.take_length] at *
        go_wp2_with fail
        go_ret
        exact ⟨by rw [Hfin.out]; rfl, kept_trans hb1 hb⟩

end Go.Proofs.Ytodjmmdfgjkhiaa
