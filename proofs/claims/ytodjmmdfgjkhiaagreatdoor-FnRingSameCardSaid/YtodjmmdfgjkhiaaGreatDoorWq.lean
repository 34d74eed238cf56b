/-
  Comparing two wheels, and two lists of wheels.
-/
import Derived.Test.YtodjmmdfgjkhiaaGreatDoorW9
import Derived.Test.YtodjmmdfgjkhiaaGreatDoorWcl
import Derived.Laws.StructEq
namespace Go.Proofs.YtodjmmdfgjkhiaaGreatDoor
open Go.RowKit

def W9.eqB (x y : W9) : Bool := x.s == y.s && C8.eqB x.c y.c

theorem W9.eqB_iff (x y : W9) : x.eqB y = true ↔ x = y := by
  cases x; cases y
  simp [W9.eqB, C8.eqB_iff]

instance : DecidableEq W9 := fun x y => decidable_of_iff _ (W9.eqB_iff x y)

theorem eqArrD (c d : C8) (w : World) : (Op.equalIn 9998 35 c.val d.val).run Tryz.prog w = .ok (c.eqB d) w := by
  rw [val_spell, val_spell, show (9998 : Nat) = 9997 + 1 from rfl, Op.equalIn]
  have hS := Tryz.underlying35
  have hz := Tryz.sizeOf3
  have hi := fun (a b : Int) (w : World) => run_equalIn_int (P := Tryz.prog) w 9996 3 .i64 .i64 a b Tryz.underlying3
  simp only [Sem.run_bind, run_underlying hS, Result.andThen_ok, hz]
  simp only [Std.Legacy.Range.forIn_eq_forIn_range', Std.Legacy.Range.size, Nat.sub_zero, Nat.add_sub_cancel, Nat.div_one, List.range'_succ, List.range'_zero, List.forIn_cons, List.forIn_nil]
  go_simp
  unfold C8.eqB
  (repeat' split) <;> simp_all

theorem eqCyD (c d : C8) (w : World) : (Op.equalIn 9999 37 c.val d.val).run Tryz.prog w = .ok (c.eqB d) w := by
  have hS : Tryz.prog.underlying 37 = some (.struct (Tryz.prog.fieldsOf 37)) := by kernel_rfl
  have hp : Tryz.prog.stoodInHeld 37 = false := by kernel_rfl
  have ha := fun w => eqArrD c d w
  have hs := Tryz.sizeOf35
  have hg := Tryz.isAgg35
  rw [val_spell, val_spell] at ha ⊢
  rw [show (9999 : Nat) = 9998 + 1 from rfl, run_equalIn_agg w 9998 37 _ _ hS hp]
  simp only [Program.fieldsOf, Tryz.underlying37]
  go_simp
  cases c.eqB d <;> rfl

theorem eqWh (x y : W9) (w : World) : (Op.equalIn 10000 39 x.val y.val).run Tryz.prog w = .ok (x.eqB y) w := by
  have hS : Tryz.prog.underlying 39 = some (.struct (Tryz.prog.fieldsOf 39)) := by kernel_rfl
  have hp : Tryz.prog.stoodInHeld 39 = false := by kernel_rfl
  have ha := fun w => eqCyD x.c y.c w
  have hi := fun (a b : Int) (w : World) => run_equalIn_int (P := Tryz.prog) w 9998 3 .i64 .i64 a b Tryz.underlying3
  have hs := Tryz.sizeOf37
  have hg := Tryz.isAgg37
  have hs1 := Tryz.sizeOf3
  have hg1 := Tryz.isAgg3
  rw [val_spell, val_spell] at ha
  rw [val9_spell, val9_spell]
  rw [show (10000 : Nat) = 9999 + 1 from rfl, run_equalIn_agg w 9999 39 _ _ hS hp]
  simp only [Program.fieldsOf, Tryz.underlying39]
  unfold W9.eqB
  generalize C8.eqB x.c y.c = b at ha ⊢
  go_simp
  cases hxy : (x.s == y.s) <;> cases b <;> simp_all

theorem neqWh (x y : W9) (w : World) : (binOp .neq 39 x.val y.val).run Tryz.prog w = .ok (.bool (!x.eqB y)) w := by
  have h := eqWh x y w
  rw [val9_spell, val9_spell] at h ⊢
  rw [run_neq_struct, h]; rfl

theorem eqList {ws us : List W9} (hl : ws.length = us.length) (h : ∀ j (h1 : j < ws.length) (h2 : j < us.length), ws[j] = us[j]) : ws = us := List.ext_getElem hl fun j h1 h2 => h j h1 h2

theorem neList {ws us : List W9} {t : Nat} (h1 : t < ws.length) (h2 : t < us.length) (h : (ws[t]).eqB (us[t]) = false) : decide (ws = us) = false := by
  refine decide_eq_false ?_
  rintro rfl
  rw [(W9.eqB_iff _ _).2 rfl] at h
  cases h

set_option maxRecDepth 100000 in
set_option maxHeartbeats 1000000 in
theorem slicesEqual_ok (v v' : Value) (ws us : List W9) (w : World) (hr : Reads w 9 v ws.length (wlCells ws)) (hr' : Reads w 9 v' us.length (wlCells us)) :
    Calls Tryz.prog 11 #[v, v'] w fun e w' => e = .returned (.bool (decide (ws = us))) ∧ Below w.heap.size w w' := by
  obtain ⟨_, hm, A, c, rfl, hc⟩ := hr
  obtain ⟨_, hm', A', c', rfl, hc'⟩ := hr'
  by_cases hl : ws.length = us.length
  · have Hl := hide hl
    have hl1 : (us.length : Int) = (ws.length : Int) := by omega
    have hl2 : us.length = ws.length := hl.symm
    rw [hl2] at hm' hc' ⊢
    clear hl hl1 hl2
    go_enter Tryz.func11, Tryz.ntmps11
    go_wp2_with fail
    go_loopw [5, 13] (fun _ i wr => ∃ t m : Nat, t ≤ ws.length ∧ i = .int .i64 t ∧ (∀ j (h1 : j < ws.length) (h2 : j < us.length), j < t → ws[j] = us[j]) ∧ wr = w.drewN m) (fun _ i _ => ws.length - (intOf i).toNat)
    case atStart => exact ⟨0, 0, by omega, rfl, fun _ _ _ h => absurd h (by omega), rfl⟩
    case round =>
      obtain ⟨t, m, ht, rfl, hup, rfl⟩ := hrel
      have Hup := hide hup
      clear hup
      by_cases hlt : t < ws.length
      · obtain ⟨b, o, rfl, hbl, hcell⟩ := hc (by omega) (by omega)
        obtain ⟨b', o', rfl, hbl', hcell'⟩ := hc' (by omega) (by omega)
        have hlt' : t < us.length := by have := Hl.out; omega
        have hA := wl_cells hcell t hlt
        have hB := wl_cells (ws := us) (by rw [← Hl.out]; exact hcell') t hlt'
        have hn := neqWh (ws[t]) (us[t])
        have Hne := hide (neList hlt hlt')
        have Heq : Hid ((ws[t]).eqB (us[t]) = true → ws[t] = us[t]) := fun h => (W9.eqB_iff _ _).1 h
        clear hcell hc hcell' hc'
        generalize hx : ws[t] = x at hA hn Hne Heq
        generalize hy : us[t] = y at hB hn Hne Heq
        have Hx := hide hx
        have Hy := hide hy
        clear hx hy
        rw [val9_spell, val9_spell] at hn
        obtain ⟨p0, p1, p2, p3, p4, p5, p6, p7, p8⟩ := hA
        obtain ⟨q0, q1, q2, q3, q4, q5, q6, q7, q8⟩ := hB
        have i3 : (0 : Int) ≤ (t : Int) := by omega
        have i4 : (t : Int) < (ws.length : Int) := by omega
        cases hq : x.eqB y
        · have Hq := hide hq
          rw [hq] at hn
          clear hq
          go_wp2_with fail
          go_quiet (fail)
          go_wp2_with fail
          go_ret
          exact ⟨by rw [Hne.out Hq.out]; rfl, kept_trans (kept_drewN _ _) (kept_drewN _ _)⟩
        · have Hq := hide hq
          rw [hq] at hn
          clear hq
          go_wp2_with fail
          go_quiet (fail)
          go_wp2_with fail
          go_roundw
          case rel => exact ⟨t + 1, _, by omega, by go_num, fun j h1 h2 hj => if hjt : j < t then Hup.out j h1 h2 hjt else by
            obtain rfl : j = t := by omega
            rw [Hx.out, Hy.out]; exact Heq.out Hq.out, rfl⟩
          case measure => simp [intOf]; omega
      · have He : Hid (decide (ws = us) = true) := decide_eq_true (eqList Hl.out fun j h1 h2 => Hup.out j h1 h2 (by omega))
        go_wp2_with fail
        go_ret
        exact ⟨by rw [He.out]; rfl, kept_drewN _ _⟩
  · have He : Hid (decide (ws = us) = false) := decide_eq_false fun h => hl (by rw [h])
    have hl1 : ((ws.length : Int) == (us.length : Int)) = false := beq_eq_false_iff_ne.2 (by omega)
    go_enter Tryz.func11, Tryz.ntmps11
    go_wp2_with fail
    go_ret
    exact ⟨by rw [He.out]; rfl, Below.refl _ _⟩

set_option maxRecDepth 100000 in
set_option maxHeartbeats 1000000 in
theorem l5Equal_ok (v v' : Value) (ws us : List W9) (w : World) (hr : Reads w 9 v ws.length (wlCells ws)) (hr' : Reads w 9 v' us.length (wlCells us)) :
    Calls Tryz.prog 14 #[v, v'] w fun e w' => e = .returned (.bool (decide (ws = us))) ∧ Below w.heap.size w w' := by
  obtain ⟨_, hm, A, c, rfl, hc⟩ := hr
  obtain ⟨_, hm', A', c', rfl, hc'⟩ := hr'
  by_cases hl : ws.length = us.length
  · have Hl := hide hl
    have hl1 : (us.length : Int) = (ws.length : Int) := by omega
    have hl2 : us.length = ws.length := hl.symm
    rw [hl2] at hm' hc' ⊢
    clear hl hl1 hl2
    go_enter Tryz.func14, Tryz.ntmps14
    go_wp2_with fail
    go_loopw [5] (fun i wr => ∃ t m : Nat, t ≤ ws.length ∧ i = .int .i64 t ∧ (∀ j (h1 : j < ws.length) (h2 : j < us.length), j < t → ws[j] = us[j]) ∧ wr = w.drewN m) (fun i _ => ws.length - (intOf i).toNat)
    case atStart => exact ⟨0, 0, by omega, rfl, fun _ _ _ h => absurd h (by omega), rfl⟩
    case round =>
      obtain ⟨t, m, ht, rfl, hup, rfl⟩ := hrel
      have Hup := hide hup
      clear hup
      by_cases hlt : t < ws.length
      · obtain ⟨b, o, rfl, hbl, hcell⟩ := hc (by omega) (by omega)
        obtain ⟨b', o', rfl, hbl', hcell'⟩ := hc' (by omega) (by omega)
        have hlt' : t < us.length := by have := Hl.out; omega
        have hA := wl_cells hcell t hlt
        have hB := wl_cells (ws := us) (by rw [← Hl.out]; exact hcell') t hlt'
        have hn := neqWh (ws[t]) (us[t])
        have Hne := hide (neList hlt hlt')
        have Heq : Hid ((ws[t]).eqB (us[t]) = true → ws[t] = us[t]) := fun h => (W9.eqB_iff _ _).1 h
        clear hcell hc hcell' hc'
        generalize hx : ws[t] = x at hA hn Hne Heq
        generalize hy : us[t] = y at hB hn Hne Heq
        have Hx := hide hx
        have Hy := hide hy
        clear hx hy
        rw [val9_spell, val9_spell] at hn
        obtain ⟨p0, p1, p2, p3, p4, p5, p6, p7, p8⟩ := hA
        obtain ⟨q0, q1, q2, q3, q4, q5, q6, q7, q8⟩ := hB
        have i3 : (0 : Int) ≤ (t : Int) := by omega
        have i4 : (t : Int) < (ws.length : Int) := by omega
        cases hq : x.eqB y
        · have Hq := hide hq
          rw [hq] at hn
          clear hq
          go_wp2_with fail
          go_quiet (fail)
          go_wp2_with fail
          go_ret
          exact ⟨by rw [Hne.out Hq.out]; rfl, kept_trans (kept_drewN _ _) (kept_drewN _ _)⟩
        · have Hq := hide hq
          rw [hq] at hn
          clear hq
          go_wp2_with fail
          go_quiet (fail)
          go_wp2_with fail
          go_roundw
          case rel => exact ⟨t + 1, _, by omega, by go_num, fun j h1 h2 hj => if hjt : j < t then Hup.out j h1 h2 hjt else by
            obtain rfl : j = t := by omega
            rw [Hx.out, Hy.out]; exact Heq.out Hq.out, rfl⟩
          case measure => simp [intOf]; omega
      · have He : Hid (decide (ws = us) = true) := decide_eq_true (eqList Hl.out fun j h1 h2 => Hup.out j h1 h2 (by omega))
        go_wp2_with fail
        go_ret
        exact ⟨by rw [He.out]; rfl, kept_drewN _ _⟩
  · have He : Hid (decide (ws = us) = false) := decide_eq_false fun h => hl (by rw [h])
    have hl1 : ((ws.length : Int) == (us.length : Int)) = false := beq_eq_false_iff_ne.2 (by omega)
    go_enter Tryz.func14, Tryz.ntmps14
    go_wp2_with fail
    go_ret
    exact ⟨by rw [He.out]; rfl, Below.refl _ _⟩

end Go.Proofs.YtodjmmdfgjkhiaaGreatDoor
