/-
  DesignCentre and DesignSpeeds, of the program and of the reference.
-/
import Derived.Test.YtodjmmdfgjkhiaaWf
import Derived.Test.YtodjmmdfgjkhiaaIl
namespace Go.Proofs.Ytodjmmdfgjkhiaa
open Go.RowKit

def centre : List W9 → C8
  | [] => zero8
  | x :: xs => if x.s = 0 then x.c else centre xs
def centreRes (ws : List W9) : C8 × Bool := if (tidyDes ws).2 = true then (centre (tidyDes ws).1, true) else (zero8, false)

theorem centre_hit (ts : List W9) (t : Nat) (h : t < ts.length) (hb : ∀ j (h : j < ts.length), j < t → (ts[j]).s ≠ 0) (h0 : (ts[t]).s = 0) : centre ts = (ts[t]).c := by
  induction ts generalizing t with
  | nil => simp at h
  | cons x xs ih =>
    cases t with
    | zero => have h0 : x.s = 0 := h0; simp [centre, h0]
    | succ t =>
      have hx : x.s ≠ 0 := hb 0 (by simp) (by omega)
      rw [centre, if_neg hx]
      exact ih t (by simpa using h) (fun j hj hjt => hb (j + 1) (by simpa using hj) (by omega)) h0

theorem centre_miss (ts : List W9) (hb : ∀ j (h : j < ts.length), (ts[j]).s ≠ 0) : centre ts = zero8 := by
  induction ts with
  | nil => rfl
  | cons x xs ih =>
    have hx : x.s ≠ 0 := hb 0 (by simp)
    rw [centre, if_neg hx]
    exact ih fun j hj => hb (j + 1) (by simpa using hj)

def CentrePost (r : C8 × Bool) (w : World) (e : Ending) (w' : World) : Prop := e = .returned (.tuple #[r.1.val, .bool r.2]) ∧ Below w.heap.size w w'

set_option maxRecDepth 100000 in
set_option maxHeartbeats 2000000 in
theorem centreSpec_ok (v : Value) (ws : List W9) (w : World) (hr : Reads w 9 v ws.length (wlCells ws)) (hn : ws.length ≤ 1048576) :
    Calls Try.prog 10 #[v] w (CentrePost (centreRes ws) w) := by
  have hb0 : Below w.heap.size w (w.alloc (.cells zero8.arr 26)) := kept_new _ _
  have hblk0 := blk_new w zero8 26
  have himp := tidySpec_ok v ws _ (reads_kept hr hb0) hn
  have Hres : Hid (centreRes ws = if (tidyDes ws).2 = true then (centre (tidyDes ws).1, true) else (zero8, false)) := rfl
  unfold WlPost at himp
  generalize tidyDes ws = r at himp Hres
  obtain ⟨ts, ok⟩ := r
  dsimp only at himp Hres
  have Hb0 := hide hb0
  have Hblk0 := hide hblk0
  clear hr hb0 hblk0
  unfold C8.arr zero8 at himp
  cases ok
  · have Hfin : Hid (centreRes ws = (zero8, false)) := Hres.out
    go_enter Try.func10, Try.ntmps10
    go_wp2_with fail
    refine himp.mono ?_
    rintro e w1 ⟨v1, rfl, hh, hb1⟩
    clear himp
    have hblk := blk_kept Hblk0.out hb1
    have hz := blk_lt hblk
    obtain ⟨p0, p1, p2, p3, p4, p5, p6, p7⟩ := blk_cells hblk
    obtain ⟨f0, f1, f2, f3, f4, f5, f6, f7⟩ := blk_frees hblk
    have H8 := hide (blk_set8 hblk zero8)
    have hb8 := hide (kept_set8 (kept_trans Hb0.out hb1) (g := w.heap.size) (Nat.le_refl _) zero8)
    clear hblk
    simp only [zero8] at p0 p1 p2 p3 p4 p5 p6 p7
    go_wp2_with fail
    change bodyPost _ _ _ _ _ (set8w w1 w.heap.size zero8)
    generalize set8w w1 w.heap.size zero8 = wz at H8 hb8
    obtain ⟨z0, z1, z2, z3, z4, z5, z6, z7⟩ := blk_cells H8.out
    exact bodyPost_ret (v := .tuple #[zero8.val, .bool false]) (by simp [results, Try.results10, go_sem, val_spell, z0, z1, z2, z3, z4, z5, z6, z7]) rfl ⟨by rw [Hfin.out], hb8.out⟩
  · have Hfin : Hid (centreRes ws = (centre ts, true)) := Hres.out
    clear Hres
    go_enter Try.func10, Try.ntmps10
    go_wp2_with fail
    refine himp.mono ?_
    rintro e w1 ⟨v1, rfl, hh, hb1⟩
    clear himp
    have hblk := blk_kept Hblk0.out hb1
    have Hblk := hide hblk
    have Hb01 := hide (kept_trans Hb0.out hb1)
    have hz := blk_lt hblk
    obtain ⟨p0, p1, p2, p3, p4, p5, p6, p7⟩ := blk_cells hblk
    obtain ⟨f0, f1, f2, f3, f4, f5, f6, f7⟩ := blk_frees hblk
    clear hblk hb1
    obtain ⟨_, hm, A, c, rfl, hc⟩ := has_reads hh
    clear hh
    simp only [zero8] at p0 p1 p2 p3 p4 p5 p6 p7
    go_wp2_with fail
    go_loop [6] (fun i => ∃ t : Nat, t ≤ ts.length ∧ i = .int .i64 t ∧ ∀ j (h : j < ts.length), j < t → (ts[j]).s ≠ 0) (fun i => ts.length - (intOf i).toNat)
    case atStart => exact ⟨0, by omega, rfl, fun _ _ h => absurd h (by omega)⟩
    case round =>
      obtain ⟨t, ht, rfl, hup⟩ := hrel
      have Hup := hide hup
      clear hup
      by_cases hlt : t < ts.length
      · obtain ⟨b, o, rfl, hbl, hcell⟩ := hc (by omega) (by omega)
        have hA := wl_cells hcell t hlt
        clear hcell hc
        by_cases h0 : (ts[t]).s = 0
        · have Hc : Hid (centre ts = (ts[t]).c) := centre_hit ts t hlt Hup.out h0
          rw [h0] at hA
          generalize (ts[t]).c = cc at hA Hc
          obtain ⟨q0, q1, q2, q3, q4, q5, q6, q7, q8⟩ := hA
          have H8 := hide (blk_set8 Hblk.out cc)
          have hb8 := hide (kept_set8 Hb01.out (g := w.heap.size) (Nat.le_refl _) cc)
          clear h0
          go_wp2_with fail
          change bodyPost _ _ _ _ _ (set8w w1 w.heap.size cc)
          generalize set8w w1 w.heap.size cc = wz at H8 hb8
          obtain ⟨z0, z1, z2, z3, z4, z5, z6, z7⟩ := blk_cells H8.out
          exact bodyPost_ret (v := .tuple #[cc.val, .bool true]) (by simp [results, Try.results10, go_sem, val_spell, z0, z1, z2, z3, z4, z5, z6, z7]) rfl ⟨by rw [Hfin.out, Hc.out], hb8.out⟩
        · have Hn := hide h0
          have hn0 : ((ts[t]).s == 0) = false := beq_eq_false_iff_ne.2 h0
          have Hnext : Hid (∀ j (h : j < ts.length), j < t + 1 → (ts[j]).s ≠ 0) := fun j h hj => if hjt : j < t then Hup.out j h hjt else by
            obtain rfl : j = t := by omega
            exact Hn.out
          generalize (ts[t]).s = s at hA hn0
          have hA := hA.1
          clear h0 Hn
          go_wp2_with fail
          go_round
          case rel => exact ⟨t + 1, by omega, by go_num, Hnext.out⟩
          case measure => simp [intOf]; omega
      · have Hc : Hid (centre ts = zero8) := centre_miss ts fun j h => Hup.out j h (by omega)
        have H8 := hide (blk_set8 Hblk.out zero8)
        have hb8 := hide (kept_set8 Hb01.out (g := w.heap.size) (Nat.le_refl _) zero8)
        go_wp2_with fail
        change bodyPost _ _ _ _ _ (set8w w1 w.heap.size zero8)
        generalize set8w w1 w.heap.size zero8 = wz at H8 hb8
        obtain ⟨z0, z1, z2, z3, z4, z5, z6, z7⟩ := blk_cells H8.out
        exact bodyPost_ret (v := .tuple #[zero8.val, .bool true]) (by simp [results, Try.results10, go_sem, val_spell, z0, z1, z2, z3, z4, z5, z6, z7]) rfl ⟨by rw [Hfin.out, Hc.out], hb8.out⟩

set_option maxRecDepth 100000 in
set_option maxHeartbeats 2000000 in
theorem centreImpl_ok (v : Value) (ws : List W9) (w : World) (hr : Reads w 9 v ws.length (wlCells ws)) (hn : ws.length ≤ 1048576) :
    Calls Try.prog 12 #[v] w (CentrePost (centreRes ws) w) := by
  have hb0 : Below w.heap.size w (w.alloc (.cells zero8.arr 26)) := kept_new _ _
  have hblk0 := blk_new w zero8 26
  have himp := tidyImpl_ok v ws _ (reads_kept hr hb0) hn
  have Hres : Hid (centreRes ws = if (tidyDes ws).2 = true then (centre (tidyDes ws).1, true) else (zero8, false)) := rfl
  unfold WlPost at himp
  generalize tidyDes ws = r at himp Hres
  obtain ⟨ts, ok⟩ := r
  dsimp only at himp Hres
  have Hb0 := hide hb0
  have Hblk0 := hide hblk0
  clear hr hb0 hblk0
  unfold C8.arr zero8 at himp
  cases ok
  · have Hfin : Hid (centreRes ws = (zero8, false)) := Hres.out
    go_enter Try.func12, Try.ntmps12
    go_wp2_with fail
    refine himp.mono ?_
    rintro e w1 ⟨v1, rfl, hh, hb1⟩
    clear himp
    have hblk := blk_kept Hblk0.out hb1
    have hz := blk_lt hblk
    obtain ⟨p0, p1, p2, p3, p4, p5, p6, p7⟩ := blk_cells hblk
    obtain ⟨f0, f1, f2, f3, f4, f5, f6, f7⟩ := blk_frees hblk
    have H8 := hide (blk_set8 hblk zero8)
    have hb8 := hide (kept_set8 (kept_trans Hb0.out hb1) (g := w.heap.size) (Nat.le_refl _) zero8)
    clear hblk
    simp only [zero8] at p0 p1 p2 p3 p4 p5 p6 p7
    go_wp2_with fail
    change bodyPost _ _ _ _ _ (set8w w1 w.heap.size zero8)
    generalize set8w w1 w.heap.size zero8 = wz at H8 hb8
    obtain ⟨z0, z1, z2, z3, z4, z5, z6, z7⟩ := blk_cells H8.out
    exact bodyPost_ret (v := .tuple #[zero8.val, .bool false]) (by simp [results, Try.results12, go_sem, val_spell, z0, z1, z2, z3, z4, z5, z6, z7]) rfl ⟨by rw [Hfin.out], hb8.out⟩
  · have Hfin : Hid (centreRes ws = (centre ts, true)) := Hres.out
    clear Hres
    go_enter Try.func12, Try.ntmps12
    go_wp2_with fail
    refine himp.mono ?_
    rintro e w1 ⟨v1, rfl, hh, hb1⟩
    clear himp
    have hblk := blk_kept Hblk0.out hb1
    have Hblk := hide hblk
    have Hb01 := hide (kept_trans Hb0.out hb1)
    have hwz : w.heap.size < w1.heap.size := blk_lt hblk
    clear hblk hb1
    obtain ⟨_, hm, A, c, rfl, hc⟩ := has_reads hh
    clear hh
    go_wp2_with fail
    go_loopw [7, 18] (fun _ i wr => ∃ t : Nat, t ≤ ts.length ∧ i = .int .i64 t ∧ (∀ j (h : j < ts.length), j < t → (ts[j]).s ≠ 0) ∧ Below w1.heap.size w1 wr) (fun _ i _ => ts.length - (intOf i).toNat)
    case atStart => exact ⟨0, by omega, rfl, fun _ _ h => absurd h (by omega), Below.refl _ _⟩
    case round =>
      obtain ⟨t, ht, rfl, hup, hb⟩ := hrel
      have Hup := hide hup
      clear hup
      have hbs := hb.size
      by_cases hlt : t < ts.length
      · obtain ⟨b, o, rfl, hbl, hcell⟩ := hc (by omega) (by omega)
        have hA := wl_cells (below_cells hb hbl hcell) t hlt
        clear hcell hc
        have hb2 := fun (o : Obj) => kept_alloc hb o
        by_cases h0 : (ts[t]).s = 0
        · have Hc : Hid (centre ts = (ts[t]).c) := centre_hit ts t hlt Hup.out h0
          rw [h0] at hA
          generalize (ts[t]).c = cc at hA Hc
          obtain ⟨q0, q1, q2, q3, q4, q5, q6, q7, q8⟩ := hA
          have hk := hb2 (.cells (⟨0, cc⟩ : W9).arr 49)
          have hblk := blk_kept Hblk.out hk
          obtain ⟨p0, p1, p2, p3, p4, p5, p6, p7⟩ := blk_cells hblk
          obtain ⟨f0, f1, f2, f3, f4, f5, f6, f7⟩ := blk_frees hblk
          have H8 := hide (blk_set8 hblk cc)
          have hb8 := hide (kept_set8 (kept_trans Hb01.out hk) (g := w.heap.size) (Nat.le_refl _) cc)
          have hbx := blk9_new wr ⟨0, cc⟩ 49
          obtain ⟨x0, x1, x2, x3, x4, x5, x6, x7, x8⟩ := blk9_cells hbx
          clear hblk hk hb2 hb hbx
          unfold W9.arr at p0 p1 p2 p3 p4 p5 p6 p7 f0 f1 f2 f3 f4 f5 f6 f7 H8 hb8 x0 x1 x2 x3 x4 x5 x6 x7 x8
          simp only [zero8] at p0 p1 p2 p3 p4 p5 p6 p7
          clear h0
          go_wp2_with fail
          change bodyPost _ _ _ _ _ (set8w (wr.alloc (.cells #[.int .i64 0, .int .i64 cc.a0, .int .i64 cc.a1, .int .i64 cc.a2, .int .i64 cc.a3, .int .i64 cc.a4, .int .i64 cc.a5, .int .i64 cc.a6, .int .i64 cc.a7] 49)) w.heap.size cc)
          generalize set8w (wr.alloc (.cells #[.int .i64 0, .int .i64 cc.a0, .int .i64 cc.a1, .int .i64 cc.a2, .int .i64 cc.a3, .int .i64 cc.a4, .int .i64 cc.a5, .int .i64 cc.a6, .int .i64 cc.a7] 49)) w.heap.size cc = wz at H8 hb8
          obtain ⟨z0, z1, z2, z3, z4, z5, z6, z7⟩ := blk_cells H8.out
          exact bodyPost_ret (v := .tuple #[cc.val, .bool true]) (by simp [results, Try.results12, go_sem, val_spell, z0, z1, z2, z3, z4, z5, z6, z7]) rfl ⟨by rw [Hfin.out, Hc.out], hb8.out⟩
        · have Hn := hide h0
          have hn0 : ((ts[t]).s == 0) = false := beq_eq_false_iff_ne.2 h0
          have Hnext : Hid (∀ j (h : j < ts.length), j < t + 1 → (ts[j]).s ≠ 0) := fun j h hj => if hjt : j < t then Hup.out j h hjt else by
            obtain rfl : j = t := by omega
            exact Hn.out
          generalize ts[t] = m at hA hn0
          obtain ⟨q0, q1, q2, q3, q4, q5, q6, q7, q8⟩ := hA
          have hk := hb2 (.cells m.arr 49)
          clear h0 Hn hb2
          go_wp2_with fail
          go_roundw
          case rel => exact ⟨t + 1, by omega, by go_num, Hnext.out, hk⟩
          case measure => simp [intOf]; omega
      · have Hc : Hid (centre ts = zero8) := centre_miss ts fun j h => Hup.out j h (by omega)
        have hblk := blk_kept Hblk.out hb
        obtain ⟨p0, p1, p2, p3, p4, p5, p6, p7⟩ := blk_cells hblk
        obtain ⟨f0, f1, f2, f3, f4, f5, f6, f7⟩ := blk_frees hblk
        have H8 := hide (blk_set8 hblk zero8)
        have hb8 := hide (kept_set8 (kept_trans Hb01.out hb) (g := w.heap.size) (Nat.le_refl _) zero8)
        clear hblk hb
        simp only [zero8] at p0 p1 p2 p3 p4 p5 p6 p7
        go_wp2_with fail
        change bodyPost _ _ _ _ _ (set8w wr w.heap.size zero8)
        generalize set8w wr w.heap.size zero8 = wz at H8 hb8
        obtain ⟨z0, z1, z2, z3, z4, z5, z6, z7⟩ := blk_cells H8.out
        exact bodyPost_ret (v := .tuple #[zero8.val, .bool true]) (by simp [results, Try.results12, go_sem, val_spell, z0, z1, z2, z3, z4, z5, z6, z7]) rfl ⟨by rw [Hfin.out, Hc.out], hb8.out⟩

def speedsOf (ts : List W9) : List Int := ts.map W9.s
def speedsRes (ws : List W9) : List Int × Bool := (speedsOf (tidyDes ws).1, (tidyDes ws).2)

theorem tidyDes_bad (ws : List W9) (h : (tidyDes ws).2 = false) : (tidyDes ws).1 = [] := by
  unfold tidyDes at *
  split at h
  · rename_i h1
    rw [if_pos h1]
    unfold tidyRes doneW at *
    split at h
    · cases h
    · rename_i h2
      rw [if_neg h2]
  · rename_i h1
    rw [if_neg h1]

/-- A slice of ints of its own, and whether. -/
def InPost (r : List Int × Bool) (w : World) (e : Ending) (w' : World) : Prop :=
  ∃ v, e = .returned (.tuple #[v, .bool r.2]) ∧ Has w' w.heap.size 1 v r.1.length (ints r.1) ∧ Below w.heap.size w w'

theorem ints_succ (ts : List W9) (t : Nat) (h : t < ts.length) : ints (speedsOf (ts.take (t + 1))) = ints (speedsOf (ts.take t)) ++ [.int .i64 (ts[t]).s] := by
  rw [List.take_succ_eq_append_getElem h]
  unfold ints speedsOf
  rw [List.map_append, List.map_append]
  rfl

theorem Try.infoI : (Try.prog.info? 3).map (fun i => (i.zero, i.size, i.bytes)) = some (some (.int .i64 0), 1, 8) := by kernel_rfl

set_option maxRecDepth 100000 in
set_option maxHeartbeats 2000000 in
theorem speedsSpec_ok (v : Value) (ws : List W9) (w : World) (hr : Reads w 9 v ws.length (wlCells ws)) (hn : ws.length ≤ 1048576) :
    Calls Try.prog 19 #[v] w (InPost (speedsRes ws) w) := by
  obtain ⟨i0, hi, hz0, hz1, hz2⟩ := info_parts Try.infoI
  have himp := tidySpec_ok v ws w hr hn
  have hbad := tidyDes_bad ws
  obtain ⟨htl, _⟩ := tidyDes_ok ws
  have Hres : Hid (speedsRes ws = (speedsOf (tidyDes ws).1, (tidyDes ws).2)) := rfl
  unfold WlPost at himp
  generalize tidyDes ws = r at himp Hres hbad htl
  obtain ⟨ts, ok⟩ := r
  dsimp only at himp Hres hbad htl
  clear hr
  cases ok
  · obtain rfl := hbad rfl
    go_enter Try.func19, Try.ntmps19
    go_wp2_with fail
    refine himp.mono ?_
    rintro e w1 ⟨v1, rfl, hh, hb1⟩
    have hem := owns_empty w1 3 1 w.heap.size hb1.size
    have Hem := hide hem
    obtain ⟨_, hm, A, c, rfl, hc⟩ := has_reads hh
    clear himp hem hh hc hbad
    go_wp2_with fail
    refine wp_loop_rounds 1 ?_; rw [rounds_succ]
    go_wp2_with fail
    go_ret2
    exact ⟨_, by rw [Hres.out]; rfl, by rw [Hres.out]; exact has_owns Hem.out, kept_alloc hb1 _⟩
  · clear hbad
    go_enter Try.func19, Try.ntmps19
    go_wp2_with fail
    refine himp.mono ?_
    rintro e w1 ⟨v1, rfl, hh, hb1⟩
    have Hem := hide (owns_empty w1 3 1 w1.heap.size (Nat.le_refl _))
    obtain ⟨_, hm, A, c, rfl, hc⟩ := has_reads hh
    clear himp hh
    go_wp2_with fail
    go_loopw [6, 7] (fun v i wr => ∃ (t g cap : Nat), t ≤ ts.length ∧ i = .int .i64 t ∧ v = .slice (some ⟨g, 0, none⟩) t cap ∧ wr.ownsRow w1.heap.size 3 1 (.slice (some ⟨g, 0, none⟩) t cap) t (ints (speedsOf (ts.take t))) ∧ Below w1.heap.size w1 wr) (fun _ i _ => ts.length - (intOf i).toNat)
    case atStart => exact ⟨0, _, _, by omega, rfl, rfl, by simpa [ints, speedsOf] using Hem.out, kept_new _ _⟩
    case round =>
      obtain ⟨t, g, cap, ht, rfl, rfl, ho, hb⟩ := hrel
      clear Hem
      by_cases hlt : t < ts.length
      · obtain ⟨b, o, rfl, hbl, hcell⟩ := hc (by omega) (by omega)
        have hA := (wl_cells (below_cells hb hbl hcell) t hlt).1
        have Hs := hide (ints_succ ts t hlt)
        clear hcell hc
        generalize (ts[t]).s = s at hA Hs
        have hbs := hb.size
        go_wp2_with (at_builtin; refine wpList_append_one wr rfl _ _ 35 rfl w1.heap.size 3 i0 _ 1 8 Try.underlying35 hi hz0 hz1 hz2 rfl (by decide) _ _ _ rfl ho [.int .i64 s] _ _ rfl rfl (by simp [Value.oneCell']) (by omega) (by decide) hbs rfl (by simp) ?_)
        intro g' cap' w3 ho4 hg3 hr3
        have hk5 := kept_grown hb hg3 hr3
        clear ho hg3
        go_wp2_with fail
        go_roundw
        case rel => exact ⟨t + 1, g', cap', by omega, by go_num, rfl, by rw [Hs.out]; exact ho4, hk5⟩
        case measure => simp [intOf]; omega
      · obtain rfl : t = ts.length := by omega
        rw [List.take_length] at ho
        have hh := has_base (has_owns ho) hb1.size
        clear ho
        go_wp2_with fail
        go_ret2
        exact ⟨_, by rw [Hres.out]; rfl, by rw [Hres.out]; simpa [speedsOf] using hh, kept_trans hb1 hb⟩

set_option maxRecDepth 100000 in
set_option maxHeartbeats 2000000 in
theorem speedsImpl_ok (v : Value) (ws : List W9) (w : World) (hr : Reads w 9 v ws.length (wlCells ws)) (hn : ws.length ≤ 1048576) :
    Calls Try.prog 20 #[v] w (InPost (speedsRes ws) w) := by
  obtain ⟨i0, hi, hz0, hz1, hz2⟩ := info_parts Try.infoI
  have himp := tidyImpl_ok v ws w hr hn
  have hbad := tidyDes_bad ws
  obtain ⟨htl, _⟩ := tidyDes_ok ws
  have Hres : Hid (speedsRes ws = (speedsOf (tidyDes ws).1, (tidyDes ws).2)) := rfl
  unfold WlPost at himp
  generalize tidyDes ws = r at himp Hres hbad htl
  obtain ⟨ts, ok⟩ := r
  dsimp only at himp Hres hbad htl
  clear hr
  cases ok
  · obtain rfl := hbad rfl
    go_enter Try.func20, Try.ntmps20
    go_wp2_with fail
    refine himp.mono ?_
    rintro e w1 ⟨v1, rfl, hh, hb1⟩
    clear himp hh hbad
    go_wp2_with fail
    go_ret2
    exact ⟨_, by rw [Hres.out]; rfl, by rw [Hres.out]; exact has_nil _ _ _, hb1⟩
  · clear hbad
    go_enter Try.func20, Try.ntmps20
    go_wp2_with fail
    refine himp.mono ?_
    rintro e w1 ⟨v1, rfl, hh, hb1⟩
    obtain ⟨_, hm, A, c, rfl, hc⟩ := has_reads hh
    clear himp hh
    go_wp2_with (at_make; refine wpList_make_own _ rfl _ _ 35 rfl w1.heap.size 3 i0 _ 1 Try.underlying35 hi hz0 hz1 _ _ _ ts.length rfl rfl rfl (by rw [hz2]; omega) (by unfold maxLen; omega) (Nat.le_refl _) ?_)
    intro w3 ho2 hgrow
    have hb1' := kept_of_grown hgrow
    clear hgrow
    go_wp2_with fail
    go_loopw [6, 8, 21] (fun v _ i wr => ∃ (t g cap : Nat), t ≤ ts.length ∧ i = .int .i64 t ∧ v = .slice (some ⟨g, 0, none⟩) t cap ∧ wr.ownsRow w1.heap.size 3 1 (.slice (some ⟨g, 0, none⟩) t cap) t (ints (speedsOf (ts.take t))) ∧ Below w1.heap.size w1 wr) (fun _ _ i _ => ts.length - (intOf i).toNat)
    case atStart => exact ⟨0, _, _, by omega, rfl, rfl, by simpa [ints, speedsOf] using ho2, hb1'⟩
    case round =>
      obtain ⟨t, g, cap, ht, rfl, rfl, ho, hb⟩ := hrel
      clear ho2 hb1'
      by_cases hlt : t < ts.length
      · obtain ⟨b, o, rfl, hbl, hcell⟩ := hc (by omega) (by omega)
        have hA := wl_cells (below_cells hb hbl hcell) t hlt
        have Hs := hide (ints_succ ts t hlt)
        clear hcell hc
        generalize ts[t] = m at hA Hs
        obtain ⟨p0, p1, p2, p3, p4, p5, p6, p7, p8⟩ := hA
        have hbs := hb.size
        have hk2 := kept_new wr (.cells m.arr 49)
        have ho1 := owns_kept ho hk2
        have hb2 := kept_trans hb hk2
        have hbs2 := hb2.size
        unfold W9.arr at ho1 hb2 hbs2
        clear ho hk2
        go_wp2_with (at_builtin; refine wpList_append_one (wr.alloc (.cells #[.int .i64 m.s, .int .i64 m.c.a0, .int .i64 m.c.a1, .int .i64 m.c.a2, .int .i64 m.c.a3, .int .i64 m.c.a4, .int .i64 m.c.a5, .int .i64 m.c.a6, .int .i64 m.c.a7] 49)) rfl _ _ 35 rfl w1.heap.size 3 i0 _ 1 8 Try.underlying35 hi hz0 hz1 hz2 rfl (by decide) _ _ _ rfl ho1 [.int .i64 m.s] _ _ rfl rfl (by simp [Value.oneCell']) (by omega) (by decide) hbs2 rfl (by simp) ?_)
        intro g' cap' w3 ho4 hg3 hr3
        have hk5 := kept_grown hb2 hg3 hr3
        clear ho1 hg3
        go_wp2_with fail
        go_roundw
        case rel => exact ⟨t + 1, g', cap', by omega, by go_num, rfl, by rw [Hs.out]; exact ho4, hk5⟩
        case measure => simp [intOf]; omega
      · obtain rfl : t = ts.length := by omega
        rw [List.take_length] at ho
        have hh := has_base (has_owns ho) hb1.size
        clear ho
        go_wp2_with fail
        go_ret2
        exact ⟨_, by rw [Hres.out]; rfl, by rw [Hres.out]; simpa [speedsOf] using hh, kept_trans hb1 hb⟩

end Go.Proofs.Ytodjmmdfgjkhiaa
