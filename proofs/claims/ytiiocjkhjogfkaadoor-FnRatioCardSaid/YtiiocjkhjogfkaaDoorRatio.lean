/-
  The ratio of a train: the program's.
-/
import Derived.Test.YtiiocjkhjogfkaaDoorAcc
import Derived.Test.YtiiocjkhjogfkaaDoorRing
import Derived.Test.YtiiocjkhjogfkaaDoorRound
namespace Go.Proofs.YtiiocjkhjogfkaaDoor
open Go.RowKit Go.Shelf
attribute [local go_sem] Oper.semAt_some

def gearsB (zs : List Int) : Bool := zs.all fun z => decide (gearP z)
def lenB (n : Nat) : Bool := decide (2 ≤ n ∧ n ≤ 10 ∧ n % 2 = 0)
def trainRes (zs : List Int) : Option (Int × Int) := if lenB zs.length = true ∧ gearsB zs = true then accK zs (zs.length / 2) else none

def RatioPost (r : Option (Int × Int)) (w : World) (e : Ending) (w' : World) : Prop :=
  ∃ (a b : Int) (v : Value), e = .returned (.tuple #[.int .i64 a, .int .i64 b, v]) ∧ (∀ p, r = some p → a = p.1 ∧ b = p.2 ∧ v = .nilIface) ∧ (r = none → a = 0 ∧ b = 0 ∧ BadErr w' v) ∧ Below w.heap.size w w'

set_option maxHeartbeats 1000000 in
theorem ratio_len (A : Option Addr) (c : Nat) (zs : List Int) (w : World) (hn : zs.length ≤ 1048576) (h : lenB zs.length = false) :
    Calls Tryd.prog 37 #[.slice A zs.length c] w (RatioPost none w) := by
  have hl : ¬ (2 ≤ zs.length ∧ zs.length ≤ 10 ∧ zs.length % 2 = 0) := by simpa [lenB] using h
  clear h
  generalize zs.length = n at *
  refine (callsIn_wide (n := 4)).1 ?_
  refine callsIn_of_wp_marks Tryd.func37 rfl trivial ?_ rfl
  simp only [Tryd.ntmps37, List.size_toArray, List.length_cons, List.length_nil, Nat.reduceAdd, Nat.reduceSub, Array.replicate_succ, Array.replicate_zero, List.push_toArray, List.append_toArray, List.nil_append, List.cons_append]
  by_cases h1 : 2 ≤ n ∧ n ≤ 10
  · have h2 : (n : Int) % 2 = 1 := by omega
    clear hl
    gi_wp2
    refine ⟨trivial, (callsIn_wide.2 (within_t _ _ _ _ (by omega) (by omega))).mono ?_⟩
    rintro e w' ⟨rfl, rfl⟩
    gi_wp2
    refine ⟨.tuple #[.int .i64 0, .int .i64 0, .iface 57 (.pointer (some ⟨w.heap.size + 1 + 1 + 1, 0, none⟩))], by simp [results, Tryd.f37, go_sem], ?_⟩
    exact ⟨_, _, _, rfl, by simp, fun _ => ⟨rfl, rfl, badErr_m _ _⟩, kept_alloc (kept_alloc (kept_alloc (kept_new _ _) _) _) _⟩
  · have h2 : ¬ (2 ≤ (n : Int) ∧ (n : Int) ≤ 10) := by omega
    have H2 := hide h2
    clear hl h1 h2
    gi_wp2
    refine ⟨trivial, (callsIn_wide.2 (within_f _ _ _ _ H2.out)).mono ?_⟩
    rintro e w' ⟨rfl, rfl⟩
    gi_wp2
    refine ⟨.tuple #[.int .i64 0, .int .i64 0, .iface 57 (.pointer (some ⟨w.heap.size + 1 + 1 + 1, 0, none⟩))], by simp [results, Tryd.f37, go_sem], ?_⟩
    exact ⟨_, _, _, rfl, by simp, fun _ => ⟨rfl, rfl, badErr_m _ _⟩, kept_alloc (kept_alloc (kept_alloc (kept_new _ _) _) _) _⟩

/-- The world where the first loop begins: three cells for the results. -/
def wR (w : World) : World := ((w.alloc (.cells #[.int .i64 0] 3)).alloc (.cells #[.int .i64 0] 3)).alloc (.cells #[.nilIface] 43)
theorem wR_facts (w : World) : Cel (wR w) w.heap.size 3 (.int .i64 0) ∧ Cel (wR w) (w.heap.size + 1) 3 (.int .i64 0) ∧ Cel (wR w) (w.heap.size + 1 + 1) 43 .nilIface ∧ Below w.heap.size w (wR w) ∧ (wR w).heap.size = w.heap.size + 3 := by
  unfold wR
  refine ⟨cel_alloc (cel_alloc (cel_new _ _ _) _) _, cel_alloc ?_ _, ?_, kept_alloc (kept_alloc (kept_new _ _) _) _, by simp⟩
  · have := cel_new (w.alloc (.cells #[.int .i64 0] 3)) (.int .i64 0) 3
    rwa [show (w.alloc (.cells #[.int .i64 0] 3)).heap.size = w.heap.size + 1 from by simp] at this
  · have := cel_new ((w.alloc (.cells #[.int .i64 0] 3)).alloc (.cells #[.int .i64 0] 3)) .nilIface 43
    rwa [show ((w.alloc (.cells #[.int .i64 0] 3)).alloc (.cells #[.int .i64 0] 3)).heap.size = w.heap.size + 1 + 1 from by simp] at this

theorem cel_at (W : World) (n : Nat) (v : Value) (T : TypeId) (h : W.heap.size = n) : Cel (W.alloc (.cells #[v] T)) n T v := by
  subst h; exact cel_new _ _ _

/-- The world where the pairs come: top and bottom, and what the iterator has captured. -/
def wC (w : World) (sv : Value) : World := ((((wR w).alloc (.cells #[.int .i64 1] 3)).alloc (.cells #[.int .i64 1] 3)).alloc (.cells #[sv] 29)).alloc (.cells #[.int .i64 2] 3)
theorem wC_facts (w : World) (sv : Value) : Cel (wC w sv) w.heap.size 3 (.int .i64 0) ∧ Cel (wC w sv) (w.heap.size + 1) 3 (.int .i64 0) ∧ Cel (wC w sv) (w.heap.size + 1 + 1) 43 .nilIface ∧
    Cel (wC w sv) (w.heap.size + 3) 3 (.int .i64 1) ∧ Cel (wC w sv) (w.heap.size + 3 + 1) 3 (.int .i64 1) ∧ Cel (wC w sv) (w.heap.size + 3 + 1 + 1) 29 sv ∧ Cel (wC w sv) (w.heap.size + 3 + 1 + 1 + 1) 3 (.int .i64 2) ∧ Below w.heap.size w (wC w sv) ∧ (wC w sv).heap.size = w.heap.size + 7 := by
  obtain ⟨r0, r1, r2, hb, hs⟩ := wR_facts w
  unfold wC
  refine ⟨cel_alloc (cel_alloc (cel_alloc (cel_alloc r0 _) _) _) _, cel_alloc (cel_alloc (cel_alloc (cel_alloc r1 _) _) _) _, cel_alloc (cel_alloc (cel_alloc (cel_alloc r2 _) _) _) _, cel_alloc (cel_alloc (cel_alloc (cel_at _ _ _ _ hs) _) _) _,
    cel_alloc (cel_alloc (cel_at _ _ _ _ (by simp [hs])) _) _, cel_alloc (cel_at _ _ _ _ (by simp [hs])) _, cel_at _ _ _ _ (by simp [hs]), kept_alloc (kept_alloc (kept_alloc (kept_alloc hb _) _) _) _, by simp [hs]⟩

theorem cel_own {A B : World} {k : Nat} {T : TypeId} {v : Value} {row : Option Nat} (h : Cel A k T v) (hg : A.grownBy B row) (hr : ∀ r, row = some r → ∃ o : Obj, A.heap[r]? = some o ∧ o.isCells = false) : Cel B k T v :=
  (hg.block k (cel_lt h) (fun e => by
    obtain ⟨o, h1, h2⟩ := hr k e.symm
    unfold Cel at h
    rw [h] at h1
    cases h1
    cases h2)).trans h

/-- Between two rounds: top and bottom hold what the pairs so far give; the results' cells can be written. -/
def RatI (w : World) (zs : List Int) {m : Nat} (pre : List (Pl m)) (W : World) : Prop :=
  (∃ t b : Int, accP zs pre = some (t, b) ∧ (-1000000000 ≤ t ∧ t ≤ 1000000000) ∧ (1 ≤ b ∧ b ≤ 1000000000) ∧ Cel W (w.heap.size + 3) 3 (.int .i64 t) ∧ Cel W (w.heap.size + 3 + 1) 3 (.int .i64 b) ∧
    Cel W w.heap.size 3 (.int .i64 0) ∧ Cel W (w.heap.size + 1) 3 (.int .i64 0) ∧ Cel W (w.heap.size + 1 + 1) 43 .nilIface) ∧ Below w.heap.size w W

/-- A round has found a part too great: the results are laid. -/
def RatX (w : World) (zs : List Int) {m : Nat} (c : Code) (pre : List (Pl m)) (W : World) : Prop :=
  (∃ p : Addr, c = .ret ∧ accP zs pre = none ∧ Cel W w.heap.size 3 (.int .i64 0) ∧ Cel W (w.heap.size + 1) 3 (.int .i64 0) ∧ Cel W (w.heap.size + 1 + 1) 43 (.iface 57 (.pointer (some p)))) ∧ Below w.heap.size w W

theorem gears_no {zs : List Int} {k : Nat} (h : k < zs.length) (hn : ¬ gearP zs[k]) : gearsB zs = false := by
  cases hh : gearsB zs with
  | false => rfl
  | true =>
    simp only [gearsB, List.all_eq_true, decide_eq_true_eq] at hh
    exact absurd (hh _ (List.getElem_mem h)) hn

theorem gears_yes {zs : List Int} (h : ∀ k (hk : k < zs.length), gearP zs[k]) : gearsB zs = true := by
  simp only [gearsB, List.all_eq_true, decide_eq_true_eq]
  intro z hz
  obtain ⟨i, hi, rfl⟩ := List.getElem_of_mem hz
  exact h i hi

set_option maxRecDepth 100000 in
set_option maxHeartbeats 4000000 in
theorem ratio_main (b o c m : Nat) (zs : List Int) (w : World) (hl : zs.length = 2 * m) (hm1 : 1 ≤ m) (hm2 : m ≤ 5) (hcap : zs.length ≤ c) (hbl : b < w.heap.size) (hcell : ∀ j, j < zs.length → w.cell? ⟨b, o + j, none⟩ = (zs.map (Value.int .i64))[j]?) :
    Calls Tryd.prog 37 #[.slice (some ⟨b, o, none⟩) zs.length c] w (RatioPost (if gearsB zs = true then accK zs m else none) w) := by
  obtain ⟨r0, r1, r2, hb0, hs0⟩ := wR_facts w
  have HC := hide hcell
  have HL := hide hl
  clear hcell
  generalize hr : (if gearsB zs = true then accK zs m else none) = r
  have HR := hide hr
  clear hr
  refine (callsIn_wide (n := 4)).1 ?_
  refine callsIn_of_wp_marks Tryd.func37 rfl trivial ?_ rfl
  simp only [Tryd.ntmps37, List.size_toArray, List.length_cons, List.length_nil, Nat.reduceAdd, Nat.reduceSub, Array.replicate_succ, Array.replicate_zero, List.push_toArray, List.append_toArray, List.nil_append, List.cons_append]
  rw [hl]
  have p1 : (((2 * m : Nat) : Int) % 2 == 1) = false := beq_eq_false_iff_ne.2 (by omega)
  have p2 : ((2 * m : Nat) : Int) ≤ 10 := by omega
  have p3 : 2 ≤ ((2 * m : Nat) : Int) := by omega
  rw [hl] at hcap
  clear hl
  generalize hN : 2 * m = N at *
  have HM := hide hN
  clear hN
  gi_wp2
  refine ⟨trivial, (callsIn_wide.2 (within_t _ _ _ _ (by omega) (by omega))).mono ?_⟩
  rintro e w' ⟨rfl, rfl⟩
  gi_wp2
  gi_loopw [29] (fun i wr => ∃ k : Nat, k ≤ N ∧ i = .int .i64 k ∧ wr = wR w ∧ ∀ j (hj : j < zs.length), j < k → gearP zs[j]) (fun i _ => N - (intOf i).toNat)
  case atStart => exact ⟨0, by omega, rfl, rfl, fun j _ h => absurd h (by omega)⟩
  case round =>
    obtain ⟨k, hk, rfl, rfl, hup⟩ := hrel
    have Hup := hide hup
    clear hup
    by_cases hlt : k < N
    · have hkl : k < zs.length := by rw [HL.out]; exact hlt
      have hc1 : (wR w).cell? ⟨b, o + k, none⟩ = some (.int .i64 zs[k]) := by
        rw [hb0.cell (p := ⟨b, o + k, none⟩) hbl, HC.out k hkl]; simp [hkl]
      by_cases hg : gearP zs[k]
      · have Hup2 : Hid (∀ j (hj : j < zs.length), j < k + 1 → gearP zs[j]) := fun j hj h => if e : j < k then Hup.out j hj e else by
          obtain rfl : j = k := by omega
          exact hg
        unfold gearP at hg
        generalize zs[k] = x at *
        gi_wp2
        refine ⟨trivial, (callsIn_wide.2 (gear_t x _ hg.1 hg.2)).mono ?_⟩
        rintro e w' ⟨rfl, rfl⟩
        gi_wp2
        go_roundw
        case rel => exact ⟨k + 1, by omega, by go_num, trivial, Hup2.out⟩
        case measure => simp [intOf]; omega
      · have Hg := hide (gears_no hkl hg)
        have Hn : Hid (¬ gearP zs[k]) := hg
        clear hg
        generalize zs[k] = x at *
        gi_wp2
        refine ⟨trivial, (callsIn_wide.2 (gear_f x _ Hn.out)).mono ?_⟩
        rintro e w' ⟨rfl, hbf⟩
        have c0 := cel_kept r0 hbf
        have c1 := cel_kept r1 hbf
        have c2 := cel_kept r2 hbf
        have hbb := kept_trans hb0 hbf
        have d0 := cel_cell c0
        have d1 := cel_cell c1
        have d2 := cel_cell c2
        have f0 := cel_free c0
        have f1 := cel_free c1
        have f2 := cel_free c2
        clear r0 r1 r2 c0 c1 c2 hbf hc1
        gi_wp2
        refine ⟨.tuple #[.int .i64 0, .int .i64 0, .iface 57 (.pointer (some ⟨w.heap.size + 3, 0, none⟩))], by simp [results, Tryd.f37, go_sem, d0, d1, d2], ?_⟩
        have hrn : r = none := by rw [← HR.out, Hg.out]; rfl
        exact ⟨_, _, _, rfl, (fun p hp => by rw [hrn] at hp; cases hp), fun _ => ⟨rfl, rfl, badErr_m _ _⟩, kept_set (kept_set (kept_set hbb (by simp) _) (by simp) _) (by simp; omega) _⟩
    · obtain rfl : k = N := by omega
      have Hg : Hid (gearsB zs = true) := gears_yes (fun j hj => Hup.out j hj (by rw [← HL.out]; exact hj))
      gi_wp2
      refine ⟨trivial, (callsIn_wide.2 (chunk_ok _ _ _ _)).mono ?_⟩
      rintro e w' ⟨rfl, rfl⟩
      gi_wp2
      obtain ⟨s0, s1, s2, s3, s4, s5, s6, hbC, hsC⟩ := wC_facts w (.slice (some ⟨b, o, none⟩) k c)
      have e2 : 2 * m = k := HM.out
      have S5 : Hid (Cel (wC w (.slice (some ⟨b, o, none⟩) k c)) (w.heap.size + 3 + 1 + 1) 29 (.slice (some ⟨b, o, none⟩) (2 * m : Nat) c)) := by rw [Hid, e2]; exact s5
      change Code.wpIn _ _ _ _ _ _ (wC w (.slice (some ⟨b, o, none⟩) k c))
      generalize wC w (.slice (some ⟨b, o, none⟩) k c) = W0 at *
      refine wpIn_rangeFunc_ownF (F := Fence.wide) rfl (by decide) (gf := 50) (lb := #[.pointer (some ⟨w.heap.size + 3 + 1 + 1, 0, none⟩), .pointer (some ⟨w.heap.size + 3 + 1 + 1 + 1, 0, none⟩)]) rfl trivial (enters_of Tryd.func50 (by kernel_rfl) rfl)
        (chunk_stops _ (by decide) (w.heap.size + 3 + 1 + 1) (w.heap.size + 3 + 1 + 1 + 1) b o m c (by omega) (by omega) W0 S5.out s6) kpC_t ?kb (Below.refl _ _) (fun _ => rfl)
        (RatI w zs) (RatX w zs) ?oi ?ox ?h0
        (fun x => { tmps := #[.slice (some ⟨b, o, none⟩) k c, undef, .pointer (some ⟨w.heap.size, 0, none⟩), .pointer (some ⟨w.heap.size + 1, 0, none⟩), .pointer (some ⟨w.heap.size + 1 + 1, 0, none⟩), undef, u6, u7, .pointer (some ⟨w.heap.size + 3, 0, none⟩), .pointer (some ⟨w.heap.size + 3 + 1, 0, none⟩), .slice (some ⟨b, o + x.1 * 2, none⟩) 2 2, undef, .slice (some ⟨b, o, none⟩) k c, .int .i64 k, .bool true, .bool false, .bool false, .slice (some ⟨b, o, none⟩) k c, .int .i64 k, .int .i64 ((k : Int) % 2), .bool false, .bool false, undef, undef, undef, undef, undef, .slice (some ⟨b, o, none⟩) k c, .int .i64 k, .int .i64 k, .bool false, u31, u32, u33, u34, u35, u36, u37, u38, .slice (some ⟨b, o, none⟩) k c, .func (.func 50) #[] #[.pointer (some ⟨w.heap.size + 3 + 1 + 1, 0, none⟩), .pointer (some ⟨w.heap.size + 3 + 1 + 1 + 1, 0, none⟩)], .slice (some ⟨b, o + x.1 * 2, none⟩) 2 2, undef, undef, undef, undef, undef, undef, undef, undef, undef, undef, undef, undef, undef, undef, undef, undef, undef, undef, undef, undef, undef, undef, undef, undef, undef, undef, undef, undef, undef, undef, undef, undef, undef], defers := [] }) ?assign ?body ?done ?stop
      case kb =>
        intro W l o1 o2 hl _ _ _
        have h1 : w.heap.size + 3 + 1 + 1 ≠ l := by omega
        have h2 : w.heap.size + 3 + 1 + 1 + 1 ≠ l := by omega
        exact ⟨by simp [World.putObj, Ne.symm h1], by simp [World.putObj, Ne.symm h2]⟩
      case oi =>
        exact OwnFrom.and (Own.from (fun s A B row hs hg hr => by
          obtain ⟨t, bb, h1, h2, h3, h4, h5, h6, h7, h8⟩ := hs
          exact ⟨t, bb, h1, h2, h3, cel_own h4 hg hr, cel_own h5 hg hr, cel_own h6 hg hr, cel_own h7 hg hr, cel_own h8 hg hr⟩) _) (ownFrom_below (Nat.le_refl _) (by omega))
      case ox =>
        intro cc
        exact OwnFrom.and (Own.from (fun s A B row hs hg hr => by
          obtain ⟨p, h1, h2, h3, h4, h5⟩ := hs
          exact ⟨p, h1, h2, cel_own h3 hg hr, cel_own h4 hg hr, cel_own h5 hg hr⟩) _) (ownFrom_below (Nat.le_refl _) (by omega))
      case h0 => exact ⟨⟨1, 1, rfl, by omega, by omega, s3, s4, s0, s1, s2⟩, hbC⟩
      case assign =>
        intro l x W K hK
        gi_wp2
        exact hK
      case body =>
        rintro l pre x W ⟨⟨t, bb, hacc, ht, hbb, q3, q4, q0, q1, q2⟩, hB⟩ _
        have hx : x.1 * 2 + 1 < zs.length := by have := x.2; have := HL.out; omega
        have hX : ∃ X Y : Int, zs.getD (x.1 * 2) 0 = X ∧ zs.getD (x.1 * 2 + 1) 0 = Y ∧ (6 ≤ X ∧ X ≤ 240) ∧ (6 ≤ Y ∧ Y ≤ 240) ∧ W.cell? ⟨b, o + x.1 * 2, none⟩ = some (.int .i64 X) ∧ W.cell? ⟨b, o + x.1 * 2 + 1, none⟩ = some (.int .i64 Y) := by
          have g1 := Hup.out (x.1 * 2) (by omega) (by have := HL.out; omega)
          have g2 := Hup.out (x.1 * 2 + 1) hx (by have := HL.out; omega)
          refine ⟨_, _, rfl, rfl, ?_, ?_, ?_, ?_⟩
          · have g3 : gearP (zs.getD (x.1 * 2) 0) := by simpa [List.getD_eq_getElem?_getD, show x.1 * 2 < zs.length by omega] using g1
            exact g3
          · have g3 : gearP (zs.getD (x.1 * 2 + 1) 0) := by simpa [List.getD_eq_getElem?_getD, hx] using g2
            exact g3
          · rw [hB.cell (p := ⟨b, o + x.1 * 2, none⟩) hbl, HC.out _ (by omega)]; simp [show x.1 * 2 < zs.length by omega]
          · rw [Nat.add_assoc, hB.cell (p := ⟨b, o + (x.1 * 2 + 1), none⟩) hbl, HC.out _ hx]; simp [hx]
        obtain ⟨X, Y, ex, ey, hX, hY, cX, cY⟩ := hX
        obtain ⟨T, Bo, g, U, V, eT, eB, eg, eU, eV, bT, bB, bg, bU, bV⟩ := step_bd ht hbb hX hY
        have hst : Hid (accP zs (pre ++ [x]) = if -1000000000 ≤ U ∧ U ≤ 1000000000 ∧ V ≤ 1000000000 then some (U, V) else none) := by
          rw [Hid, accP_snoc, hacc]
          show stepR (t, bb) _ _ = _
          rw [ex, ey]
          simp only [stepR]
          rw [eT, eB, eg, eU, eV]
        have e1 : IntKind.i64.wrap (-t) = -t := IntWalk.i64_in _ (by omega)
        have e2 : IntKind.i64.wrap (-t * X) = T := by rw [Int.neg_mul, eT]; exact IntWalk.i64_in _ (by omega)
        have e3 : IntKind.i64.wrap (bb * Y) = Bo := by rw [eB]; exact IntWalk.i64_in _ (by omega)
        have E4 : Hid (IntKind.i64.wrap (T.tdiv g) = U) := by rw [Hid, eU]; exact IntWalk.i64_in _ (by omega)
        have E5 : Hid (IntKind.i64.wrap (Bo.tdiv g) = V) := by rw [Hid, eV]; exact IntWalk.i64_in _ (by omega)
        have Eg := hide eg
        have c3 := cel_cell q3
        have c4 := cel_cell q4
        have f3 := cel_free q3
        have f4 := cel_free q4
        clear hacc ex ey eT eB eg eU eV
        gi_wp2
        refine region_round (by kernel_rfl) (fun a' w' => a' = { tmps := #[.slice (some ⟨b, o, none⟩) k c, undef, .pointer (some ⟨w.heap.size, 0, none⟩), .pointer (some ⟨w.heap.size + 1, 0, none⟩), .pointer (some ⟨w.heap.size + 1 + 1, 0, none⟩), undef, u6, u7, .pointer (some ⟨w.heap.size + 3, 0, none⟩), .pointer (some ⟨w.heap.size + 3 + 1, 0, none⟩), .slice (some ⟨b, o + x.1 * 2, none⟩) 2 2, undef, .slice (some ⟨b, o, none⟩) k c, .int .i64 k, .bool true, .bool false, .bool false, .slice (some ⟨b, o, none⟩) k c, .int .i64 k, .int .i64 ((k : Int) % 2), .bool false, .bool false, undef, undef, undef, undef, undef, .slice (some ⟨b, o, none⟩) k c, .int .i64 k, .int .i64 k, .bool false, u31, u32, u33, u34, u35, u36, u37, u38, .slice (some ⟨b, o, none⟩) k c, .func (.func 50) #[] #[.pointer (some ⟨w.heap.size + 3 + 1 + 1, 0, none⟩), .pointer (some ⟨w.heap.size + 3 + 1 + 1 + 1, 0, none⟩)], .slice (some ⟨b, o + x.1 * 2, none⟩) 2 2, .int .i64 t, .int .i64 (-t), .slice (some ⟨b, o + x.1 * 2, none⟩) 2 2, .pointer (some ⟨b, o + x.1 * 2, none⟩), .int .i64 X, .int .i64 T, .int .i64 bb, .slice (some ⟨b, o + x.1 * 2, none⟩) 2 2, .pointer (some ⟨b, o + x.1 * 2 + 1, none⟩), .int .i64 Y, .int .i64 Bo, undef, undef, undef, undef, undef, undef, undef, undef, undef, undef, undef, undef, undef, undef, undef, undef, undef, undef, undef, undef, undef, undef], defers := [] } ∧ w' = ((W.setCell ⟨w.heap.size + 3, 0, none⟩ (.int .i64 T)).setCell ⟨w.heap.size + 3 + 1, 0, none⟩ (.int .i64 Bo)).drew) ?c13 (by kernel_rfl) ?r13
        case r13 =>
          dsimp only [List.size_toArray, List.length_cons, List.length_nil, Nat.reduceAdd]
          refine wpAny_take (i := 2) (v := .slice (some ⟨b, o + x.1 * 2, none⟩) 2 2) rfl (by kernel_rfl) (by kernel_rfl) (by kernel_rfl) (fun _ _ _ h => h) (.inl ⟨by kernel_rfl, fun _ => by go_simp⟩) ?_
          refine wpAny_take (i := 3) (v := .pointer (some ⟨b, o + x.1 * 2, none⟩)) rfl (by kernel_rfl) (by kernel_rfl) (by kernel_rfl) (fun _ _ _ h => h) (.inl ⟨by kernel_rfl, fun _ => by go_simp⟩) ?_
          refine wpAny_take (i := 7) (v := .slice (some ⟨b, o + x.1 * 2, none⟩) 2 2) rfl (by kernel_rfl) (by kernel_rfl) (by kernel_rfl) (fun _ _ _ h => h) (.inl ⟨by kernel_rfl, fun _ => by go_simp⟩) ?_
          refine wpAny_take (i := 8) (v := .pointer (some ⟨b, o + x.1 * 2 + 1, none⟩)) rfl (by kernel_rfl) (by kernel_rfl) (by kernel_rfl) (fun _ _ _ h => h) (.inl ⟨by kernel_rfl, fun _ => by go_simp⟩) ?_
          refine wpAny_all (rs := [0, 4, 6, 9]) (by kernel_rfl) (by simp) (List.forall_mem_cons.2 ⟨?_, List.forall_mem_cons.2 ⟨?_, List.forall_mem_cons.2 ⟨?_, List.forall_mem_cons.2 ⟨?_, List.forall_mem_nil _⟩⟩⟩⟩)
          · refine op_read (v := .int .i64 t) rfl (by kernel_rfl) (by go_simp) ?_
            refine wpAny_take (i := 1) (v := .int .i64 (-t)) rfl (by kernel_rfl) (by kernel_rfl) (by kernel_rfl) (fun _ _ _ h => h) (.inl ⟨by kernel_rfl, fun _ => by go_simp⟩) ?_
            refine wpAny_all (rs := [4, 6, 9]) (by kernel_rfl) (by simp) (List.forall_mem_cons.2 ⟨?_, List.forall_mem_cons.2 ⟨?_, List.forall_mem_cons.2 ⟨?_, List.forall_mem_nil _⟩⟩⟩)
            · refine op_read (v := .int .i64 X) rfl (by kernel_rfl) (by go_simp) ?_
              refine wpAny_take (i := 5) (v := .int .i64 T) rfl (by kernel_rfl) (by kernel_rfl) (by kernel_rfl) (fun _ _ _ h => h) (.inl ⟨by kernel_rfl, fun _ => by go_simp⟩) ?_
              refine wpAny_all (rs := [6, 9, 11]) (by kernel_rfl) (by simp) (List.forall_mem_cons.2 ⟨?_, List.forall_mem_cons.2 ⟨?_, List.forall_mem_cons.2 ⟨?_, List.forall_mem_nil _⟩⟩⟩)
              · refine op_read (v := .int .i64 bb) rfl (by kernel_rfl) (by go_simp) ?_
                refine wpAny_all (rs := [9, 11]) (by kernel_rfl) (by simp) (List.forall_mem_cons.2 ⟨?_, List.forall_mem_cons.2 ⟨?_, List.forall_mem_nil _⟩⟩)
                · refine op_read (v := .int .i64 Y) rfl (by kernel_rfl) (by go_simp) ?_
                  refine wpAny_take (i := 10) (v := .int .i64 Bo) rfl (by kernel_rfl) (by kernel_rfl) (by kernel_rfl) (fun _ _ _ h => h) (.inl ⟨by kernel_rfl, fun _ => by go_simp⟩) ?_
                  refine wpAny_all (rs := [11]) (by kernel_rfl) (by simp) (List.forall_mem_cons.2 ⟨?_, List.forall_mem_nil _⟩)
                  refine op_skip (w' := (W.setCell ⟨w.heap.size + 3, 0, none⟩ (.int .i64 T)).drew) rfl (by kernel_rfl) (by go_simp) ?_
                  refine wpAny_all (rs := [12]) (by kernel_rfl) (by simp) (List.forall_mem_cons.2 ⟨?_, List.forall_mem_nil _⟩)
                  refine op_skip (w' := ((W.setCell ⟨w.heap.size + 3, 0, none⟩ (.int .i64 T)).setCell ⟨w.heap.size + 3 + 1, 0, none⟩ (.int .i64 Bo)).drew) rfl (by kernel_rfl) (by go_simp) ?_
                  exact any_end (by kernel_rfl) ⟨by kernel_rfl, rfl⟩
                · refine op_skip (w' := (W.setCell ⟨w.heap.size + 3, 0, none⟩ (.int .i64 T)).drew) rfl (by kernel_rfl) (by go_simp) ?_
                  refine wpAny_all (rs := [9]) (by kernel_rfl) (by simp) (List.forall_mem_cons.2 ⟨?_, List.forall_mem_nil _⟩)
                  refine op_read (v := .int .i64 Y) rfl (by kernel_rfl) (by go_simp) ?_
                  refine wpAny_take (i := 10) (v := .int .i64 Bo) rfl (by kernel_rfl) (by kernel_rfl) (by kernel_rfl) (fun _ _ _ h => h) (.inl ⟨by kernel_rfl, fun _ => by go_simp⟩) ?_
                  refine wpAny_all (rs := [12]) (by kernel_rfl) (by simp) (List.forall_mem_cons.2 ⟨?_, List.forall_mem_nil _⟩)
                  refine op_skip (w' := ((W.setCell ⟨w.heap.size + 3, 0, none⟩ (.int .i64 T)).setCell ⟨w.heap.size + 3 + 1, 0, none⟩ (.int .i64 Bo)).drew) rfl (by kernel_rfl) (by go_simp) ?_
                  exact any_end (by kernel_rfl) ⟨by kernel_rfl, rfl⟩
              · refine op_read (v := .int .i64 Y) rfl (by kernel_rfl) (by go_simp) ?_
                refine wpAny_all (rs := [6, 11]) (by kernel_rfl) (by simp) (List.forall_mem_cons.2 ⟨?_, List.forall_mem_cons.2 ⟨?_, List.forall_mem_nil _⟩⟩)
                · refine op_read (v := .int .i64 bb) rfl (by kernel_rfl) (by go_simp) ?_
                  refine wpAny_take (i := 10) (v := .int .i64 Bo) rfl (by kernel_rfl) (by kernel_rfl) (by kernel_rfl) (fun _ _ _ h => h) (.inl ⟨by kernel_rfl, fun _ => by go_simp⟩) ?_
                  refine wpAny_all (rs := [11]) (by kernel_rfl) (by simp) (List.forall_mem_cons.2 ⟨?_, List.forall_mem_nil _⟩)
                  refine op_skip (w' := (W.setCell ⟨w.heap.size + 3, 0, none⟩ (.int .i64 T)).drew) rfl (by kernel_rfl) (by go_simp) ?_
                  refine wpAny_all (rs := [12]) (by kernel_rfl) (by simp) (List.forall_mem_cons.2 ⟨?_, List.forall_mem_nil _⟩)
                  refine op_skip (w' := ((W.setCell ⟨w.heap.size + 3, 0, none⟩ (.int .i64 T)).setCell ⟨w.heap.size + 3 + 1, 0, none⟩ (.int .i64 Bo)).drew) rfl (by kernel_rfl) (by go_simp) ?_
                  exact any_end (by kernel_rfl) ⟨by kernel_rfl, rfl⟩
                · refine op_skip (w' := (W.setCell ⟨w.heap.size + 3, 0, none⟩ (.int .i64 T)).drew) rfl (by kernel_rfl) (by go_simp) ?_
                  refine wpAny_all (rs := [6]) (by kernel_rfl) (by simp) (List.forall_mem_cons.2 ⟨?_, List.forall_mem_nil _⟩)
                  refine op_read (v := .int .i64 bb) rfl (by kernel_rfl) (by go_simp) ?_
                  refine wpAny_take (i := 10) (v := .int .i64 Bo) rfl (by kernel_rfl) (by kernel_rfl) (by kernel_rfl) (fun _ _ _ h => h) (.inl ⟨by kernel_rfl, fun _ => by go_simp⟩) ?_
                  refine wpAny_all (rs := [12]) (by kernel_rfl) (by simp) (List.forall_mem_cons.2 ⟨?_, List.forall_mem_nil _⟩)
                  refine op_skip (w' := ((W.setCell ⟨w.heap.size + 3, 0, none⟩ (.int .i64 T)).setCell ⟨w.heap.size + 3 + 1, 0, none⟩ (.int .i64 Bo)).drew) rfl (by kernel_rfl) (by go_simp) ?_
                  exact any_end (by kernel_rfl) ⟨by kernel_rfl, rfl⟩
              · refine op_skip (w' := (W.setCell ⟨w.heap.size + 3, 0, none⟩ (.int .i64 T)).drew) rfl (by kernel_rfl) (by go_simp) ?_
                refine wpAny_all (rs := [6, 9]) (by kernel_rfl) (by simp) (List.forall_mem_cons.2 ⟨?_, List.forall_mem_cons.2 ⟨?_, List.forall_mem_nil _⟩⟩)
                · refine op_read (v := .int .i64 bb) rfl (by kernel_rfl) (by go_simp) ?_
                  refine wpAny_all (rs := [9]) (by kernel_rfl) (by simp) (List.forall_mem_cons.2 ⟨?_, List.forall_mem_nil _⟩)
                  refine op_read (v := .int .i64 Y) rfl (by kernel_rfl) (by go_simp) ?_
                  refine wpAny_take (i := 10) (v := .int .i64 Bo) rfl (by kernel_rfl) (by kernel_rfl) (by kernel_rfl) (fun _ _ _ h => h) (.inl ⟨by kernel_rfl, fun _ => by go_simp⟩) ?_
                  refine wpAny_all (rs := [12]) (by kernel_rfl) (by simp) (List.forall_mem_cons.2 ⟨?_, List.forall_mem_nil _⟩)
                  refine op_skip (w' := ((W.setCell ⟨w.heap.size + 3, 0, none⟩ (.int .i64 T)).setCell ⟨w.heap.size + 3 + 1, 0, none⟩ (.int .i64 Bo)).drew) rfl (by kernel_rfl) (by go_simp) ?_
                  exact any_end (by kernel_rfl) ⟨by kernel_rfl, rfl⟩
                · refine op_read (v := .int .i64 Y) rfl (by kernel_rfl) (by go_simp) ?_
                  refine wpAny_all (rs := [6]) (by kernel_rfl) (by simp) (List.forall_mem_cons.2 ⟨?_, List.forall_mem_nil _⟩)
                  refine op_read (v := .int .i64 bb) rfl (by kernel_rfl) (by go_simp) ?_
                  refine wpAny_take (i := 10) (v := .int .i64 Bo) rfl (by kernel_rfl) (by kernel_rfl) (by kernel_rfl) (fun _ _ _ h => h) (.inl ⟨by kernel_rfl, fun _ => by go_simp⟩) ?_
                  refine wpAny_all (rs := [12]) (by kernel_rfl) (by simp) (List.forall_mem_cons.2 ⟨?_, List.forall_mem_nil _⟩)
                  refine op_skip (w' := ((W.setCell ⟨w.heap.size + 3, 0, none⟩ (.int .i64 T)).setCell ⟨w.heap.size + 3 + 1, 0, none⟩ (.int .i64 Bo)).drew) rfl (by kernel_rfl) (by go_simp) ?_
                  exact any_end (by kernel_rfl) ⟨by kernel_rfl, rfl⟩
            · refine op_read (v := .int .i64 bb) rfl (by kernel_rfl) (by go_simp) ?_
              refine wpAny_all (rs := [4, 9]) (by kernel_rfl) (by simp) (List.forall_mem_cons.2 ⟨?_, List.forall_mem_cons.2 ⟨?_, List.forall_mem_nil _⟩⟩)
              · refine op_read (v := .int .i64 X) rfl (by kernel_rfl) (by go_simp) ?_
                refine wpAny_take (i := 5) (v := .int .i64 T) rfl (by kernel_rfl) (by kernel_rfl) (by kernel_rfl) (fun _ _ _ h => h) (.inl ⟨by kernel_rfl, fun _ => by go_simp⟩) ?_
                refine wpAny_all (rs := [9, 11]) (by kernel_rfl) (by simp) (List.forall_mem_cons.2 ⟨?_, List.forall_mem_cons.2 ⟨?_, List.forall_mem_nil _⟩⟩)
                · refine op_read (v := .int .i64 Y) rfl (by kernel_rfl) (by go_simp) ?_
                  refine wpAny_take (i := 10) (v := .int .i64 Bo) rfl (by kernel_rfl) (by kernel_rfl) (by kernel_rfl) (fun _ _ _ h => h) (.inl ⟨by kernel_rfl, fun _ => by go_simp⟩) ?_
                  refine wpAny_all (rs := [11]) (by kernel_rfl) (by simp) (List.forall_mem_cons.2 ⟨?_, List.forall_mem_nil _⟩)
                  refine op_skip (w' := (W.setCell ⟨w.heap.size + 3, 0, none⟩ (.int .i64 T)).drew) rfl (by kernel_rfl) (by go_simp) ?_
                  refine wpAny_all (rs := [12]) (by kernel_rfl) (by simp) (List.forall_mem_cons.2 ⟨?_, List.forall_mem_nil _⟩)
                  refine op_skip (w' := ((W.setCell ⟨w.heap.size + 3, 0, none⟩ (.int .i64 T)).setCell ⟨w.heap.size + 3 + 1, 0, none⟩ (.int .i64 Bo)).drew) rfl (by kernel_rfl) (by go_simp) ?_
                  exact any_end (by kernel_rfl) ⟨by kernel_rfl, rfl⟩
                · refine op_skip (w' := (W.setCell ⟨w.heap.size + 3, 0, none⟩ (.int .i64 T)).drew) rfl (by kernel_rfl) (by go_simp) ?_
                  refine wpAny_all (rs := [9]) (by kernel_rfl) (by simp) (List.forall_mem_cons.2 ⟨?_, List.forall_mem_nil _⟩)
                  refine op_read (v := .int .i64 Y) rfl (by kernel_rfl) (by go_simp) ?_
                  refine wpAny_take (i := 10) (v := .int .i64 Bo) rfl (by kernel_rfl) (by kernel_rfl) (by kernel_rfl) (fun _ _ _ h => h) (.inl ⟨by kernel_rfl, fun _ => by go_simp⟩) ?_
                  refine wpAny_all (rs := [12]) (by kernel_rfl) (by simp) (List.forall_mem_cons.2 ⟨?_, List.forall_mem_nil _⟩)
                  refine op_skip (w' := ((W.setCell ⟨w.heap.size + 3, 0, none⟩ (.int .i64 T)).setCell ⟨w.heap.size + 3 + 1, 0, none⟩ (.int .i64 Bo)).drew) rfl (by kernel_rfl) (by go_simp) ?_
                  exact any_end (by kernel_rfl) ⟨by kernel_rfl, rfl⟩
              · refine op_read (v := .int .i64 Y) rfl (by kernel_rfl) (by go_simp) ?_
                refine wpAny_take (i := 10) (v := .int .i64 Bo) rfl (by kernel_rfl) (by kernel_rfl) (by kernel_rfl) (fun _ _ _ h => h) (.inl ⟨by kernel_rfl, fun _ => by go_simp⟩) ?_
                refine wpAny_all (rs := [4]) (by kernel_rfl) (by simp) (List.forall_mem_cons.2 ⟨?_, List.forall_mem_nil _⟩)
                refine op_read (v := .int .i64 X) rfl (by kernel_rfl) (by go_simp) ?_
                refine wpAny_take (i := 5) (v := .int .i64 T) rfl (by kernel_rfl) (by kernel_rfl) (by kernel_rfl) (fun _ _ _ h => h) (.inl ⟨by kernel_rfl, fun _ => by go_simp⟩) ?_
                refine wpAny_all (rs := [11]) (by kernel_rfl) (by simp) (List.forall_mem_cons.2 ⟨?_, List.forall_mem_nil _⟩)
                refine op_skip (w' := (W.setCell ⟨w.heap.size + 3, 0, none⟩ (.int .i64 T)).drew) rfl (by kernel_rfl) (by go_simp) ?_
                refine wpAny_all (rs := [12]) (by kernel_rfl) (by simp) (List.forall_mem_cons.2 ⟨?_, List.forall_mem_nil _⟩)
                refine op_skip (w' := ((W.setCell ⟨w.heap.size + 3, 0, none⟩ (.int .i64 T)).setCell ⟨w.heap.size + 3 + 1, 0, none⟩ (.int .i64 Bo)).drew) rfl (by kernel_rfl) (by go_simp) ?_
                exact any_end (by kernel_rfl) ⟨by kernel_rfl, rfl⟩
            · refine op_read (v := .int .i64 Y) rfl (by kernel_rfl) (by go_simp) ?_
              refine wpAny_all (rs := [4, 6]) (by kernel_rfl) (by simp) (List.forall_mem_cons.2 ⟨?_, List.forall_mem_cons.2 ⟨?_, List.forall_mem_nil _⟩⟩)
              · refine op_read (v := .int .i64 X) rfl (by kernel_rfl) (by go_simp) ?_
                refine wpAny_take (i := 5) (v := .int .i64 T) rfl (by kernel_rfl) (by kernel_rfl) (by kernel_rfl) (fun _ _ _ h => h) (.inl ⟨by kernel_rfl, fun _ => by go_simp⟩) ?_
                refine wpAny_all (rs := [6, 11]) (by kernel_rfl) (by simp) (List.forall_mem_cons.2 ⟨?_, List.forall_mem_cons.2 ⟨?_, List.forall_mem_nil _⟩⟩)
                · refine op_read (v := .int .i64 bb) rfl (by kernel_rfl) (by go_simp) ?_
                  refine wpAny_take (i := 10) (v := .int .i64 Bo) rfl (by kernel_rfl) (by kernel_rfl) (by kernel_rfl) (fun _ _ _ h => h) (.inl ⟨by kernel_rfl, fun _ => by go_simp⟩) ?_
                  refine wpAny_all (rs := [11]) (by kernel_rfl) (by simp) (List.forall_mem_cons.2 ⟨?_, List.forall_mem_nil _⟩)
                  refine op_skip (w' := (W.setCell ⟨w.heap.size + 3, 0, none⟩ (.int .i64 T)).drew) rfl (by kernel_rfl) (by go_simp) ?_
                  refine wpAny_all (rs := [12]) (by kernel_rfl) (by simp) (List.forall_mem_cons.2 ⟨?_, List.forall_mem_nil _⟩)
                  refine op_skip (w' := ((W.setCell ⟨w.heap.size + 3, 0, none⟩ (.int .i64 T)).setCell ⟨w.heap.size + 3 + 1, 0, none⟩ (.int .i64 Bo)).drew) rfl (by kernel_rfl) (by go_simp) ?_
                  exact any_end (by kernel_rfl) ⟨by kernel_rfl, rfl⟩
                · refine op_skip (w' := (W.setCell ⟨w.heap.size + 3, 0, none⟩ (.int .i64 T)).drew) rfl (by kernel_rfl) (by go_simp) ?_
                  refine wpAny_all (rs := [6]) (by kernel_rfl) (by simp) (List.forall_mem_cons.2 ⟨?_, List.forall_mem_nil _⟩)
                  refine op_read (v := .int .i64 bb) rfl (by kernel_rfl) (by go_simp) ?_
                  refine wpAny_take (i := 10) (v := .int .i64 Bo) rfl (by kernel_rfl) (by kernel_rfl) (by kernel_rfl) (fun _ _ _ h => h) (.inl ⟨by kernel_rfl, fun _ => by go_simp⟩) ?_
                  refine wpAny_all (rs := [12]) (by kernel_rfl) (by simp) (List.forall_mem_cons.2 ⟨?_, List.forall_mem_nil _⟩)
                  refine op_skip (w' := ((W.setCell ⟨w.heap.size + 3, 0, none⟩ (.int .i64 T)).setCell ⟨w.heap.size + 3 + 1, 0, none⟩ (.int .i64 Bo)).drew) rfl (by kernel_rfl) (by go_simp) ?_
                  exact any_end (by kernel_rfl) ⟨by kernel_rfl, rfl⟩
              · refine op_read (v := .int .i64 bb) rfl (by kernel_rfl) (by go_simp) ?_
                refine wpAny_take (i := 10) (v := .int .i64 Bo) rfl (by kernel_rfl) (by kernel_rfl) (by kernel_rfl) (fun _ _ _ h => h) (.inl ⟨by kernel_rfl, fun _ => by go_simp⟩) ?_
                refine wpAny_all (rs := [4]) (by kernel_rfl) (by simp) (List.forall_mem_cons.2 ⟨?_, List.forall_mem_nil _⟩)
                refine op_read (v := .int .i64 X) rfl (by kernel_rfl) (by go_simp) ?_
                refine wpAny_take (i := 5) (v := .int .i64 T) rfl (by kernel_rfl) (by kernel_rfl) (by kernel_rfl) (fun _ _ _ h => h) (.inl ⟨by kernel_rfl, fun _ => by go_simp⟩) ?_
                refine wpAny_all (rs := [11]) (by kernel_rfl) (by simp) (List.forall_mem_cons.2 ⟨?_, List.forall_mem_nil _⟩)
                refine op_skip (w' := (W.setCell ⟨w.heap.size + 3, 0, none⟩ (.int .i64 T)).drew) rfl (by kernel_rfl) (by go_simp) ?_
                refine wpAny_all (rs := [12]) (by kernel_rfl) (by simp) (List.forall_mem_cons.2 ⟨?_, List.forall_mem_nil _⟩)
                refine op_skip (w' := ((W.setCell ⟨w.heap.size + 3, 0, none⟩ (.int .i64 T)).setCell ⟨w.heap.size + 3 + 1, 0, none⟩ (.int .i64 Bo)).drew) rfl (by kernel_rfl) (by go_simp) ?_
                exact any_end (by kernel_rfl) ⟨by kernel_rfl, rfl⟩
          · refine op_read (v := .int .i64 X) rfl (by kernel_rfl) (by go_simp) ?_
            refine wpAny_all (rs := [0, 6, 9]) (by kernel_rfl) (by simp) (List.forall_mem_cons.2 ⟨?_, List.forall_mem_cons.2 ⟨?_, List.forall_mem_cons.2 ⟨?_, List.forall_mem_nil _⟩⟩⟩)
            · refine op_read (v := .int .i64 t) rfl (by kernel_rfl) (by go_simp) ?_
              refine wpAny_take (i := 1) (v := .int .i64 (-t)) rfl (by kernel_rfl) (by kernel_rfl) (by kernel_rfl) (fun _ _ _ h => h) (.inl ⟨by kernel_rfl, fun _ => by go_simp⟩) ?_
              refine wpAny_take (i := 5) (v := .int .i64 T) rfl (by kernel_rfl) (by kernel_rfl) (by kernel_rfl) (fun _ _ _ h => h) (.inl ⟨by kernel_rfl, fun _ => by go_simp⟩) ?_
              refine wpAny_all (rs := [6, 9, 11]) (by kernel_rfl) (by simp) (List.forall_mem_cons.2 ⟨?_, List.forall_mem_cons.2 ⟨?_, List.forall_mem_cons.2 ⟨?_, List.forall_mem_nil _⟩⟩⟩)
              · refine op_read (v := .int .i64 bb) rfl (by kernel_rfl) (by go_simp) ?_
                refine wpAny_all (rs := [9, 11]) (by kernel_rfl) (by simp) (List.forall_mem_cons.2 ⟨?_, List.forall_mem_cons.2 ⟨?_, List.forall_mem_nil _⟩⟩)
                · refine op_read (v := .int .i64 Y) rfl (by kernel_rfl) (by go_simp) ?_
                  refine wpAny_take (i := 10) (v := .int .i64 Bo) rfl (by kernel_rfl) (by kernel_rfl) (by kernel_rfl) (fun _ _ _ h => h) (.inl ⟨by kernel_rfl, fun _ => by go_simp⟩) ?_
                  refine wpAny_all (rs := [11]) (by kernel_rfl) (by simp) (List.forall_mem_cons.2 ⟨?_, List.forall_mem_nil _⟩)
                  refine op_skip (w' := (W.setCell ⟨w.heap.size + 3, 0, none⟩ (.int .i64 T)).drew) rfl (by kernel_rfl) (by go_simp) ?_
                  refine wpAny_all (rs := [12]) (by kernel_rfl) (by simp) (List.forall_mem_cons.2 ⟨?_, List.forall_mem_nil _⟩)
                  refine op_skip (w' := ((W.setCell ⟨w.heap.size + 3, 0, none⟩ (.int .i64 T)).setCell ⟨w.heap.size + 3 + 1, 0, none⟩ (.int .i64 Bo)).drew) rfl (by kernel_rfl) (by go_simp) ?_
                  exact any_end (by kernel_rfl) ⟨by kernel_rfl, rfl⟩
                · refine op_skip (w' := (W.setCell ⟨w.heap.size + 3, 0, none⟩ (.int .i64 T)).drew) rfl (by kernel_rfl) (by go_simp) ?_
                  refine wpAny_all (rs := [9]) (by kernel_rfl) (by simp) (List.forall_mem_cons.2 ⟨?_, List.forall_mem_nil _⟩)
                  refine op_read (v := .int .i64 Y) rfl (by kernel_rfl) (by go_simp) ?_
                  refine wpAny_take (i := 10) (v := .int .i64 Bo) rfl (by kernel_rfl) (by kernel_rfl) (by kernel_rfl) (fun _ _ _ h => h) (.inl ⟨by kernel_rfl, fun _ => by go_simp⟩) ?_
                  refine wpAny_all (rs := [12]) (by kernel_rfl) (by simp) (List.forall_mem_cons.2 ⟨?_, List.forall_mem_nil _⟩)
                  refine op_skip (w' := ((W.setCell ⟨w.heap.size + 3, 0, none⟩ (.int .i64 T)).setCell ⟨w.heap.size + 3 + 1, 0, none⟩ (.int .i64 Bo)).drew) rfl (by kernel_rfl) (by go_simp) ?_
                  exact any_end (by kernel_rfl) ⟨by kernel_rfl, rfl⟩
              · refine op_read (v := .int .i64 Y) rfl (by kernel_rfl) (by go_simp) ?_
                refine wpAny_all (rs := [6, 11]) (by kernel_rfl) (by simp) (List.forall_mem_cons.2 ⟨?_, List.forall_mem_cons.2 ⟨?_, List.forall_mem_nil _⟩⟩)
                · refine op_read (v := .int .i64 bb) rfl (by kernel_rfl) (by go_simp) ?_
                  refine wpAny_take (i := 10) (v := .int .i64 Bo) rfl (by kernel_rfl) (by kernel_rfl) (by kernel_rfl) (fun _ _ _ h => h) (.inl ⟨by kernel_rfl, fun _ => by go_simp⟩) ?_
                  refine wpAny_all (rs := [11]) (by kernel_rfl) (by simp) (List.forall_mem_cons.2 ⟨?_, List.forall_mem_nil _⟩)
                  refine op_skip (w' := (W.setCell ⟨w.heap.size + 3, 0, none⟩ (.int .i64 T)).drew) rfl (by kernel_rfl) (by go_simp) ?_
                  refine wpAny_all (rs := [12]) (by kernel_rfl) (by simp) (List.forall_mem_cons.2 ⟨?_, List.forall_mem_nil _⟩)
                  refine op_skip (w' := ((W.setCell ⟨w.heap.size + 3, 0, none⟩ (.int .i64 T)).setCell ⟨w.heap.size + 3 + 1, 0, none⟩ (.int .i64 Bo)).drew) rfl (by kernel_rfl) (by go_simp) ?_
                  exact any_end (by kernel_rfl) ⟨by kernel_rfl, rfl⟩
                · refine op_skip (w' := (W.setCell ⟨w.heap.size + 3, 0, none⟩ (.int .i64 T)).drew) rfl (by kernel_rfl) (by go_simp) ?_
                  refine wpAny_all (rs := [6]) (by kernel_rfl) (by simp) (List.forall_mem_cons.2 ⟨?_, List.forall_mem_nil _⟩)
                  refine op_read (v := .int .i64 bb) rfl (by kernel_rfl) (by go_simp) ?_
                  refine wpAny_take (i := 10) (v := .int .i64 Bo) rfl (by kernel_rfl) (by kernel_rfl) (by kernel_rfl) (fun _ _ _ h => h) (.inl ⟨by kernel_rfl, fun _ => by go_simp⟩) ?_
                  refine wpAny_all (rs := [12]) (by kernel_rfl) (by simp) (List.forall_mem_cons.2 ⟨?_, List.forall_mem_nil _⟩)
                  refine op_skip (w' := ((W.setCell ⟨w.heap.size + 3, 0, none⟩ (.int .i64 T)).setCell ⟨w.heap.size + 3 + 1, 0, none⟩ (.int .i64 Bo)).drew) rfl (by kernel_rfl) (by go_simp) ?_
                  exact any_end (by kernel_rfl) ⟨by kernel_rfl, rfl⟩
              · refine op_skip (w' := (W.setCell ⟨w.heap.size + 3, 0, none⟩ (.int .i64 T)).drew) rfl (by kernel_rfl) (by go_simp) ?_
                refine wpAny_all (rs := [6, 9]) (by kernel_rfl) (by simp) (List.forall_mem_cons.2 ⟨?_, List.forall_mem_cons.2 ⟨?_, List.forall_mem_nil _⟩⟩)
                · refine op_read (v := .int .i64 bb) rfl (by kernel_rfl) (by go_simp) ?_
                  refine wpAny_all (rs := [9]) (by kernel_rfl) (by simp) (List.forall_mem_cons.2 ⟨?_, List.forall_mem_nil _⟩)
                  refine op_read (v := .int .i64 Y) rfl (by kernel_rfl) (by go_simp) ?_
                  refine wpAny_take (i := 10) (v := .int .i64 Bo) rfl (by kernel_rfl) (by kernel_rfl) (by kernel_rfl) (fun _ _ _ h => h) (.inl ⟨by kernel_rfl, fun _ => by go_simp⟩) ?_
                  refine wpAny_all (rs := [12]) (by kernel_rfl) (by simp) (List.forall_mem_cons.2 ⟨?_, List.forall_mem_nil _⟩)
                  refine op_skip (w' := ((W.setCell ⟨w.heap.size + 3, 0, none⟩ (.int .i64 T)).setCell ⟨w.heap.size + 3 + 1, 0, none⟩ (.int .i64 Bo)).drew) rfl (by kernel_rfl) (by go_simp) ?_
                  exact any_end (by kernel_rfl) ⟨by kernel_rfl, rfl⟩
                · refine op_read (v := .int .i64 Y) rfl (by kernel_rfl) (by go_simp) ?_
                  refine wpAny_all (rs := [6]) (by kernel_rfl) (by simp) (List.forall_mem_cons.2 ⟨?_, List.forall_mem_nil _⟩)
                  refine op_read (v := .int .i64 bb) rfl (by kernel_rfl) (by go_simp) ?_
                  refine wpAny_take (i := 10) (v := .int .i64 Bo) rfl (by kernel_rfl) (by kernel_rfl) (by kernel_rfl) (fun _ _ _ h => h) (.inl ⟨by kernel_rfl, fun _ => by go_simp⟩) ?_
                  refine wpAny_all (rs := [12]) (by kernel_rfl) (by simp) (List.forall_mem_cons.2 ⟨?_, List.forall_mem_nil _⟩)
                  refine op_skip (w' := ((W.setCell ⟨w.heap.size + 3, 0, none⟩ (.int .i64 T)).setCell ⟨w.heap.size + 3 + 1, 0, none⟩ (.int .i64 Bo)).drew) rfl (by kernel_rfl) (by go_simp) ?_
                  exact any_end (by kernel_rfl) ⟨by kernel_rfl, rfl⟩
            · refine op_read (v := .int .i64 bb) rfl (by kernel_rfl) (by go_simp) ?_
              refine wpAny_all (rs := [0, 9]) (by kernel_rfl) (by simp) (List.forall_mem_cons.2 ⟨?_, List.forall_mem_cons.2 ⟨?_, List.forall_mem_nil _⟩⟩)
              · refine op_read (v := .int .i64 t) rfl (by kernel_rfl) (by go_simp) ?_
                refine wpAny_take (i := 1) (v := .int .i64 (-t)) rfl (by kernel_rfl) (by kernel_rfl) (by kernel_rfl) (fun _ _ _ h => h) (.inl ⟨by kernel_rfl, fun _ => by go_simp⟩) ?_
                refine wpAny_take (i := 5) (v := .int .i64 T) rfl (by kernel_rfl) (by kernel_rfl) (by kernel_rfl) (fun _ _ _ h => h) (.inl ⟨by kernel_rfl, fun _ => by go_simp⟩) ?_
                refine wpAny_all (rs := [9, 11]) (by kernel_rfl) (by simp) (List.forall_mem_cons.2 ⟨?_, List.forall_mem_cons.2 ⟨?_, List.forall_mem_nil _⟩⟩)
                · refine op_read (v := .int .i64 Y) rfl (by kernel_rfl) (by go_simp) ?_
                  refine wpAny_take (i := 10) (v := .int .i64 Bo) rfl (by kernel_rfl) (by kernel_rfl) (by kernel_rfl) (fun _ _ _ h => h) (.inl ⟨by kernel_rfl, fun _ => by go_simp⟩) ?_
                  refine wpAny_all (rs := [11]) (by kernel_rfl) (by simp) (List.forall_mem_cons.2 ⟨?_, List.forall_mem_nil _⟩)
                  refine op_skip (w' := (W.setCell ⟨w.heap.size + 3, 0, none⟩ (.int .i64 T)).drew) rfl (by kernel_rfl) (by go_simp) ?_
                  refine wpAny_all (rs := [12]) (by kernel_rfl) (by simp) (List.forall_mem_cons.2 ⟨?_, List.forall_mem_nil _⟩)
                  refine op_skip (w' := ((W.setCell ⟨w.heap.size + 3, 0, none⟩ (.int .i64 T)).setCell ⟨w.heap.size + 3 + 1, 0, none⟩ (.int .i64 Bo)).drew) rfl (by kernel_rfl) (by go_simp) ?_
                  exact any_end (by kernel_rfl) ⟨by kernel_rfl, rfl⟩
                · refine op_skip (w' := (W.setCell ⟨w.heap.size + 3, 0, none⟩ (.int .i64 T)).drew) rfl (by kernel_rfl) (by go_simp) ?_
                  refine wpAny_all (rs := [9]) (by kernel_rfl) (by simp) (List.forall_mem_cons.2 ⟨?_, List.forall_mem_nil _⟩)
                  refine op_read (v := .int .i64 Y) rfl (by kernel_rfl) (by go_simp) ?_
                  refine wpAny_take (i := 10) (v := .int .i64 Bo) rfl (by kernel_rfl) (by kernel_rfl) (by kernel_rfl) (fun _ _ _ h => h) (.inl ⟨by kernel_rfl, fun _ => by go_simp⟩) ?_
                  refine wpAny_all (rs := [12]) (by kernel_rfl) (by simp) (List.forall_mem_cons.2 ⟨?_, List.forall_mem_nil _⟩)
                  refine op_skip (w' := ((W.setCell ⟨w.heap.size + 3, 0, none⟩ (.int .i64 T)).setCell ⟨w.heap.size + 3 + 1, 0, none⟩ (.int .i64 Bo)).drew) rfl (by kernel_rfl) (by go_simp) ?_
                  exact any_end (by kernel_rfl) ⟨by kernel_rfl, rfl⟩
              · refine op_read (v := .int .i64 Y) rfl (by kernel_rfl) (by go_simp) ?_
                refine wpAny_take (i := 10) (v := .int .i64 Bo) rfl (by kernel_rfl) (by kernel_rfl) (by kernel_rfl) (fun _ _ _ h => h) (.inl ⟨by kernel_rfl, fun _ => by go_simp⟩) ?_
                refine wpAny_all (rs := [0]) (by kernel_rfl) (by simp) (List.forall_mem_cons.2 ⟨?_, List.forall_mem_nil _⟩)
                refine op_read (v := .int .i64 t) rfl (by kernel_rfl) (by go_simp) ?_
                refine wpAny_take (i := 1) (v := .int .i64 (-t)) rfl (by kernel_rfl) (by kernel_rfl) (by kernel_rfl) (fun _ _ _ h => h) (.inl ⟨by kernel_rfl, fun _ => by go_simp⟩) ?_
                refine wpAny_take (i := 5) (v := .int .i64 T) rfl (by kernel_rfl) (by kernel_rfl) (by kernel_rfl) (fun _ _ _ h => h) (.inl ⟨by kernel_rfl, fun _ => by go_simp⟩) ?_
                refine wpAny_all (rs := [11]) (by kernel_rfl) (by simp) (List.forall_mem_cons.2 ⟨?_, List.forall_mem_nil _⟩)
                refine op_skip (w' := (W.setCell ⟨w.heap.size + 3, 0, none⟩ (.int .i64 T)).drew) rfl (by kernel_rfl) (by go_simp) ?_
                refine wpAny_all (rs := [12]) (by kernel_rfl) (by simp) (List.forall_mem_cons.2 ⟨?_, List.forall_mem_nil _⟩)
                refine op_skip (w' := ((W.setCell ⟨w.heap.size + 3, 0, none⟩ (.int .i64 T)).setCell ⟨w.heap.size + 3 + 1, 0, none⟩ (.int .i64 Bo)).drew) rfl (by kernel_rfl) (by go_simp) ?_
                exact any_end (by kernel_rfl) ⟨by kernel_rfl, rfl⟩
            · refine op_read (v := .int .i64 Y) rfl (by kernel_rfl) (by go_simp) ?_
              refine wpAny_all (rs := [0, 6]) (by kernel_rfl) (by simp) (List.forall_mem_cons.2 ⟨?_, List.forall_mem_cons.2 ⟨?_, List.forall_mem_nil _⟩⟩)
              · refine op_read (v := .int .i64 t) rfl (by kernel_rfl) (by go_simp) ?_
                refine wpAny_take (i := 1) (v := .int .i64 (-t)) rfl (by kernel_rfl) (by kernel_rfl) (by kernel_rfl) (fun _ _ _ h => h) (.inl ⟨by kernel_rfl, fun _ => by go_simp⟩) ?_
                refine wpAny_take (i := 5) (v := .int .i64 T) rfl (by kernel_rfl) (by kernel_rfl) (by kernel_rfl) (fun _ _ _ h => h) (.inl ⟨by kernel_rfl, fun _ => by go_simp⟩) ?_
                refine wpAny_all (rs := [6, 11]) (by kernel_rfl) (by simp) (List.forall_mem_cons.2 ⟨?_, List.forall_mem_cons.2 ⟨?_, List.forall_mem_nil _⟩⟩)
                · refine op_read (v := .int .i64 bb) rfl (by kernel_rfl) (by go_simp) ?_
                  refine wpAny_take (i := 10) (v := .int .i64 Bo) rfl (by kernel_rfl) (by kernel_rfl) (by kernel_rfl) (fun _ _ _ h => h) (.inl ⟨by kernel_rfl, fun _ => by go_simp⟩) ?_
                  refine wpAny_all (rs := [11]) (by kernel_rfl) (by simp) (List.forall_mem_cons.2 ⟨?_, List.forall_mem_nil _⟩)
                  refine op_skip (w' := (W.setCell ⟨w.heap.size + 3, 0, none⟩ (.int .i64 T)).drew) rfl (by kernel_rfl) (by go_simp) ?_
                  refine wpAny_all (rs := [12]) (by kernel_rfl) (by simp) (List.forall_mem_cons.2 ⟨?_, List.forall_mem_nil _⟩)
                  refine op_skip (w' := ((W.setCell ⟨w.heap.size + 3, 0, none⟩ (.int .i64 T)).setCell ⟨w.heap.size + 3 + 1, 0, none⟩ (.int .i64 Bo)).drew) rfl (by kernel_rfl) (by go_simp) ?_
                  exact any_end (by kernel_rfl) ⟨by kernel_rfl, rfl⟩
                · refine op_skip (w' := (W.setCell ⟨w.heap.size + 3, 0, none⟩ (.int .i64 T)).drew) rfl (by kernel_rfl) (by go_simp) ?_
                  refine wpAny_all (rs := [6]) (by kernel_rfl) (by simp) (List.forall_mem_cons.2 ⟨?_, List.forall_mem_nil _⟩)
                  refine op_read (v := .int .i64 bb) rfl (by kernel_rfl) (by go_simp) ?_
                  refine wpAny_take (i := 10) (v := .int .i64 Bo) rfl (by kernel_rfl) (by kernel_rfl) (by kernel_rfl) (fun _ _ _ h => h) (.inl ⟨by kernel_rfl, fun _ => by go_simp⟩) ?_
                  refine wpAny_all (rs := [12]) (by kernel_rfl) (by simp) (List.forall_mem_cons.2 ⟨?_, List.forall_mem_nil _⟩)
                  refine op_skip (w' := ((W.setCell ⟨w.heap.size + 3, 0, none⟩ (.int .i64 T)).setCell ⟨w.heap.size + 3 + 1, 0, none⟩ (.int .i64 Bo)).drew) rfl (by kernel_rfl) (by go_simp) ?_
                  exact any_end (by kernel_rfl) ⟨by kernel_rfl, rfl⟩
              · refine op_read (v := .int .i64 bb) rfl (by kernel_rfl) (by go_simp) ?_
                refine wpAny_take (i := 10) (v := .int .i64 Bo) rfl (by kernel_rfl) (by kernel_rfl) (by kernel_rfl) (fun _ _ _ h => h) (.inl ⟨by kernel_rfl, fun _ => by go_simp⟩) ?_
                refine wpAny_all (rs := [0]) (by kernel_rfl) (by simp) (List.forall_mem_cons.2 ⟨?_, List.forall_mem_nil _⟩)
                refine op_read (v := .int .i64 t) rfl (by kernel_rfl) (by go_simp) ?_
                refine wpAny_take (i := 1) (v := .int .i64 (-t)) rfl (by kernel_rfl) (by kernel_rfl) (by kernel_rfl) (fun _ _ _ h => h) (.inl ⟨by kernel_rfl, fun _ => by go_simp⟩) ?_
                refine wpAny_take (i := 5) (v := .int .i64 T) rfl (by kernel_rfl) (by kernel_rfl) (by kernel_rfl) (fun _ _ _ h => h) (.inl ⟨by kernel_rfl, fun _ => by go_simp⟩) ?_
                refine wpAny_all (rs := [11]) (by kernel_rfl) (by simp) (List.forall_mem_cons.2 ⟨?_, List.forall_mem_nil _⟩)
                refine op_skip (w' := (W.setCell ⟨w.heap.size + 3, 0, none⟩ (.int .i64 T)).drew) rfl (by kernel_rfl) (by go_simp) ?_
                refine wpAny_all (rs := [12]) (by kernel_rfl) (by simp) (List.forall_mem_cons.2 ⟨?_, List.forall_mem_nil _⟩)
                refine op_skip (w' := ((W.setCell ⟨w.heap.size + 3, 0, none⟩ (.int .i64 T)).setCell ⟨w.heap.size + 3 + 1, 0, none⟩ (.int .i64 Bo)).drew) rfl (by kernel_rfl) (by go_simp) ?_
                exact any_end (by kernel_rfl) ⟨by kernel_rfl, rfl⟩
          · refine op_read (v := .int .i64 bb) rfl (by kernel_rfl) (by go_simp) ?_
            refine wpAny_all (rs := [0, 4, 9]) (by kernel_rfl) (by simp) (List.forall_mem_cons.2 ⟨?_, List.forall_mem_cons.2 ⟨?_, List.forall_mem_cons.2 ⟨?_, List.forall_mem_nil _⟩⟩⟩)
            · refine op_read (v := .int .i64 t) rfl (by kernel_rfl) (by go_simp) ?_
              refine wpAny_take (i := 1) (v := .int .i64 (-t)) rfl (by kernel_rfl) (by kernel_rfl) (by kernel_rfl) (fun _ _ _ h => h) (.inl ⟨by kernel_rfl, fun _ => by go_simp⟩) ?_
              refine wpAny_all (rs := [4, 9]) (by kernel_rfl) (by simp) (List.forall_mem_cons.2 ⟨?_, List.forall_mem_cons.2 ⟨?_, List.forall_mem_nil _⟩⟩)
              · refine op_read (v := .int .i64 X) rfl (by kernel_rfl) (by go_simp) ?_
                refine wpAny_take (i := 5) (v := .int .i64 T) rfl (by kernel_rfl) (by kernel_rfl) (by kernel_rfl) (fun _ _ _ h => h) (.inl ⟨by kernel_rfl, fun _ => by go_simp⟩) ?_
                refine wpAny_all (rs := [9, 11]) (by kernel_rfl) (by simp) (List.forall_mem_cons.2 ⟨?_, List.forall_mem_cons.2 ⟨?_, List.forall_mem_nil _⟩⟩)
                · refine op_read (v := .int .i64 Y) rfl (by kernel_rfl) (by go_simp) ?_
                  refine wpAny_take (i := 10) (v := .int .i64 Bo) rfl (by kernel_rfl) (by kernel_rfl) (by kernel_rfl) (fun _ _ _ h => h) (.inl ⟨by kernel_rfl, fun _ => by go_simp⟩) ?_
                  refine wpAny_all (rs := [11]) (by kernel_rfl) (by simp) (List.forall_mem_cons.2 ⟨?_, List.forall_mem_nil _⟩)
                  refine op_skip (w' := (W.setCell ⟨w.heap.size + 3, 0, none⟩ (.int .i64 T)).drew) rfl (by kernel_rfl) (by go_simp) ?_
                  refine wpAny_all (rs := [12]) (by kernel_rfl) (by simp) (List.forall_mem_cons.2 ⟨?_, List.forall_mem_nil _⟩)
                  refine op_skip (w' := ((W.setCell ⟨w.heap.size + 3, 0, none⟩ (.int .i64 T)).setCell ⟨w.heap.size + 3 + 1, 0, none⟩ (.int .i64 Bo)).drew) rfl (by kernel_rfl) (by go_simp) ?_
                  exact any_end (by kernel_rfl) ⟨by kernel_rfl, rfl⟩
                · refine op_skip (w' := (W.setCell ⟨w.heap.size + 3, 0, none⟩ (.int .i64 T)).drew) rfl (by kernel_rfl) (by go_simp) ?_
                  refine wpAny_all (rs := [9]) (by kernel_rfl) (by simp) (List.forall_mem_cons.2 ⟨?_, List.forall_mem_nil _⟩)
                  refine op_read (v := .int .i64 Y) rfl (by kernel_rfl) (by go_simp) ?_
                  refine wpAny_take (i := 10) (v := .int .i64 Bo) rfl (by kernel_rfl) (by kernel_rfl) (by kernel_rfl) (fun _ _ _ h => h) (.inl ⟨by kernel_rfl, fun _ => by go_simp⟩) ?_
                  refine wpAny_all (rs := [12]) (by kernel_rfl) (by simp) (List.forall_mem_cons.2 ⟨?_, List.forall_mem_nil _⟩)
                  refine op_skip (w' := ((W.setCell ⟨w.heap.size + 3, 0, none⟩ (.int .i64 T)).setCell ⟨w.heap.size + 3 + 1, 0, none⟩ (.int .i64 Bo)).drew) rfl (by kernel_rfl) (by go_simp) ?_
                  exact any_end (by kernel_rfl) ⟨by kernel_rfl, rfl⟩
              · refine op_read (v := .int .i64 Y) rfl (by kernel_rfl) (by go_simp) ?_
                refine wpAny_take (i := 10) (v := .int .i64 Bo) rfl (by kernel_rfl) (by kernel_rfl) (by kernel_rfl) (fun _ _ _ h => h) (.inl ⟨by kernel_rfl, fun _ => by go_simp⟩) ?_
                refine wpAny_all (rs := [4]) (by kernel_rfl) (by simp) (List.forall_mem_cons.2 ⟨?_, List.forall_mem_nil _⟩)
                refine op_read (v := .int .i64 X) rfl (by kernel_rfl) (by go_simp) ?_
                refine wpAny_take (i := 5) (v := .int .i64 T) rfl (by kernel_rfl) (by kernel_rfl) (by kernel_rfl) (fun _ _ _ h => h) (.inl ⟨by kernel_rfl, fun _ => by go_simp⟩) ?_
                refine wpAny_all (rs := [11]) (by kernel_rfl) (by simp) (List.forall_mem_cons.2 ⟨?_, List.forall_mem_nil _⟩)
                refine op_skip (w' := (W.setCell ⟨w.heap.size + 3, 0, none⟩ (.int .i64 T)).drew) rfl (by kernel_rfl) (by go_simp) ?_
                refine wpAny_all (rs := [12]) (by kernel_rfl) (by simp) (List.forall_mem_cons.2 ⟨?_, List.forall_mem_nil _⟩)
                refine op_skip (w' := ((W.setCell ⟨w.heap.size + 3, 0, none⟩ (.int .i64 T)).setCell ⟨w.heap.size + 3 + 1, 0, none⟩ (.int .i64 Bo)).drew) rfl (by kernel_rfl) (by go_simp) ?_
                exact any_end (by kernel_rfl) ⟨by kernel_rfl, rfl⟩
            · refine op_read (v := .int .i64 X) rfl (by kernel_rfl) (by go_simp) ?_
              refine wpAny_all (rs := [0, 9]) (by kernel_rfl) (by simp) (List.forall_mem_cons.2 ⟨?_, List.forall_mem_cons.2 ⟨?_, List.forall_mem_nil _⟩⟩)
              · refine op_read (v := .int .i64 t) rfl (by kernel_rfl) (by go_simp) ?_
                refine wpAny_take (i := 1) (v := .int .i64 (-t)) rfl (by kernel_rfl) (by kernel_rfl) (by kernel_rfl) (fun _ _ _ h => h) (.inl ⟨by kernel_rfl, fun _ => by go_simp⟩) ?_
                refine wpAny_take (i := 5) (v := .int .i64 T) rfl (by kernel_rfl) (by kernel_rfl) (by kernel_rfl) (fun _ _ _ h => h) (.inl ⟨by kernel_rfl, fun _ => by go_simp⟩) ?_
                refine wpAny_all (rs := [9, 11]) (by kernel_rfl) (by simp) (List.forall_mem_cons.2 ⟨?_, List.forall_mem_cons.2 ⟨?_, List.forall_mem_nil _⟩⟩)
                · refine op_read (v := .int .i64 Y) rfl (by kernel_rfl) (by go_simp) ?_
                  refine wpAny_take (i := 10) (v := .int .i64 Bo) rfl (by kernel_rfl) (by kernel_rfl) (by kernel_rfl) (fun _ _ _ h => h) (.inl ⟨by kernel_rfl, fun _ => by go_simp⟩) ?_
                  refine wpAny_all (rs := [11]) (by kernel_rfl) (by simp) (List.forall_mem_cons.2 ⟨?_, List.forall_mem_nil _⟩)
                  refine op_skip (w' := (W.setCell ⟨w.heap.size + 3, 0, none⟩ (.int .i64 T)).drew) rfl (by kernel_rfl) (by go_simp) ?_
                  refine wpAny_all (rs := [12]) (by kernel_rfl) (by simp) (List.forall_mem_cons.2 ⟨?_, List.forall_mem_nil _⟩)
                  refine op_skip (w' := ((W.setCell ⟨w.heap.size + 3, 0, none⟩ (.int .i64 T)).setCell ⟨w.heap.size + 3 + 1, 0, none⟩ (.int .i64 Bo)).drew) rfl (by kernel_rfl) (by go_simp) ?_
                  exact any_end (by kernel_rfl) ⟨by kernel_rfl, rfl⟩
                · refine op_skip (w' := (W.setCell ⟨w.heap.size + 3, 0, none⟩ (.int .i64 T)).drew) rfl (by kernel_rfl) (by go_simp) ?_
                  refine wpAny_all (rs := [9]) (by kernel_rfl) (by simp) (List.forall_mem_cons.2 ⟨?_, List.forall_mem_nil _⟩)
                  refine op_read (v := .int .i64 Y) rfl (by kernel_rfl) (by go_simp) ?_
                  refine wpAny_take (i := 10) (v := .int .i64 Bo) rfl (by kernel_rfl) (by kernel_rfl) (by kernel_rfl) (fun _ _ _ h => h) (.inl ⟨by kernel_rfl, fun _ => by go_simp⟩) ?_
                  refine wpAny_all (rs := [12]) (by kernel_rfl) (by simp) (List.forall_mem_cons.2 ⟨?_, List.forall_mem_nil _⟩)
                  refine op_skip (w' := ((W.setCell ⟨w.heap.size + 3, 0, none⟩ (.int .i64 T)).setCell ⟨w.heap.size + 3 + 1, 0, none⟩ (.int .i64 Bo)).drew) rfl (by kernel_rfl) (by go_simp) ?_
                  exact any_end (by kernel_rfl) ⟨by kernel_rfl, rfl⟩
              · refine op_read (v := .int .i64 Y) rfl (by kernel_rfl) (by go_simp) ?_
                refine wpAny_take (i := 10) (v := .int .i64 Bo) rfl (by kernel_rfl) (by kernel_rfl) (by kernel_rfl) (fun _ _ _ h => h) (.inl ⟨by kernel_rfl, fun _ => by go_simp⟩) ?_
                refine wpAny_all (rs := [0]) (by kernel_rfl) (by simp) (List.forall_mem_cons.2 ⟨?_, List.forall_mem_nil _⟩)
                refine op_read (v := .int .i64 t) rfl (by kernel_rfl) (by go_simp) ?_
                refine wpAny_take (i := 1) (v := .int .i64 (-t)) rfl (by kernel_rfl) (by kernel_rfl) (by kernel_rfl) (fun _ _ _ h => h) (.inl ⟨by kernel_rfl, fun _ => by go_simp⟩) ?_
                refine wpAny_take (i := 5) (v := .int .i64 T) rfl (by kernel_rfl) (by kernel_rfl) (by kernel_rfl) (fun _ _ _ h => h) (.inl ⟨by kernel_rfl, fun _ => by go_simp⟩) ?_
                refine wpAny_all (rs := [11]) (by kernel_rfl) (by simp) (List.forall_mem_cons.2 ⟨?_, List.forall_mem_nil _⟩)
                refine op_skip (w' := (W.setCell ⟨w.heap.size + 3, 0, none⟩ (.int .i64 T)).drew) rfl (by kernel_rfl) (by go_simp) ?_
                refine wpAny_all (rs := [12]) (by kernel_rfl) (by simp) (List.forall_mem_cons.2 ⟨?_, List.forall_mem_nil _⟩)
                refine op_skip (w' := ((W.setCell ⟨w.heap.size + 3, 0, none⟩ (.int .i64 T)).setCell ⟨w.heap.size + 3 + 1, 0, none⟩ (.int .i64 Bo)).drew) rfl (by kernel_rfl) (by go_simp) ?_
                exact any_end (by kernel_rfl) ⟨by kernel_rfl, rfl⟩
            · refine op_read (v := .int .i64 Y) rfl (by kernel_rfl) (by go_simp) ?_
              refine wpAny_take (i := 10) (v := .int .i64 Bo) rfl (by kernel_rfl) (by kernel_rfl) (by kernel_rfl) (fun _ _ _ h => h) (.inl ⟨by kernel_rfl, fun _ => by go_simp⟩) ?_
              refine wpAny_all (rs := [0, 4]) (by kernel_rfl) (by simp) (List.forall_mem_cons.2 ⟨?_, List.forall_mem_cons.2 ⟨?_, List.forall_mem_nil _⟩⟩)
              · refine op_read (v := .int .i64 t) rfl (by kernel_rfl) (by go_simp) ?_
                refine wpAny_take (i := 1) (v := .int .i64 (-t)) rfl (by kernel_rfl) (by kernel_rfl) (by kernel_rfl) (fun _ _ _ h => h) (.inl ⟨by kernel_rfl, fun _ => by go_simp⟩) ?_
                refine wpAny_all (rs := [4]) (by kernel_rfl) (by simp) (List.forall_mem_cons.2 ⟨?_, List.forall_mem_nil _⟩)
                refine op_read (v := .int .i64 X) rfl (by kernel_rfl) (by go_simp) ?_
                refine wpAny_take (i := 5) (v := .int .i64 T) rfl (by kernel_rfl) (by kernel_rfl) (by kernel_rfl) (fun _ _ _ h => h) (.inl ⟨by kernel_rfl, fun _ => by go_simp⟩) ?_
                refine wpAny_all (rs := [11]) (by kernel_rfl) (by simp) (List.forall_mem_cons.2 ⟨?_, List.forall_mem_nil _⟩)
                refine op_skip (w' := (W.setCell ⟨w.heap.size + 3, 0, none⟩ (.int .i64 T)).drew) rfl (by kernel_rfl) (by go_simp) ?_
                refine wpAny_all (rs := [12]) (by kernel_rfl) (by simp) (List.forall_mem_cons.2 ⟨?_, List.forall_mem_nil _⟩)
                refine op_skip (w' := ((W.setCell ⟨w.heap.size + 3, 0, none⟩ (.int .i64 T)).setCell ⟨w.heap.size + 3 + 1, 0, none⟩ (.int .i64 Bo)).drew) rfl (by kernel_rfl) (by go_simp) ?_
                exact any_end (by kernel_rfl) ⟨by kernel_rfl, rfl⟩
              · refine op_read (v := .int .i64 X) rfl (by kernel_rfl) (by go_simp) ?_
                refine wpAny_all (rs := [0]) (by kernel_rfl) (by simp) (List.forall_mem_cons.2 ⟨?_, List.forall_mem_nil _⟩)
                refine op_read (v := .int .i64 t) rfl (by kernel_rfl) (by go_simp) ?_
                refine wpAny_take (i := 1) (v := .int .i64 (-t)) rfl (by kernel_rfl) (by kernel_rfl) (by kernel_rfl) (fun _ _ _ h => h) (.inl ⟨by kernel_rfl, fun _ => by go_simp⟩) ?_
                refine wpAny_take (i := 5) (v := .int .i64 T) rfl (by kernel_rfl) (by kernel_rfl) (by kernel_rfl) (fun _ _ _ h => h) (.inl ⟨by kernel_rfl, fun _ => by go_simp⟩) ?_
                refine wpAny_all (rs := [11]) (by kernel_rfl) (by simp) (List.forall_mem_cons.2 ⟨?_, List.forall_mem_nil _⟩)
                refine op_skip (w' := (W.setCell ⟨w.heap.size + 3, 0, none⟩ (.int .i64 T)).drew) rfl (by kernel_rfl) (by go_simp) ?_
                refine wpAny_all (rs := [12]) (by kernel_rfl) (by simp) (List.forall_mem_cons.2 ⟨?_, List.forall_mem_nil _⟩)
                refine op_skip (w' := ((W.setCell ⟨w.heap.size + 3, 0, none⟩ (.int .i64 T)).setCell ⟨w.heap.size + 3 + 1, 0, none⟩ (.int .i64 Bo)).drew) rfl (by kernel_rfl) (by go_simp) ?_
                exact any_end (by kernel_rfl) ⟨by kernel_rfl, rfl⟩
          · refine op_read (v := .int .i64 Y) rfl (by kernel_rfl) (by go_simp) ?_
            refine wpAny_all (rs := [0, 4, 6]) (by kernel_rfl) (by simp) (List.forall_mem_cons.2 ⟨?_, List.forall_mem_cons.2 ⟨?_, List.forall_mem_cons.2 ⟨?_, List.forall_mem_nil _⟩⟩⟩)
            · refine op_read (v := .int .i64 t) rfl (by kernel_rfl) (by go_simp) ?_
              refine wpAny_take (i := 1) (v := .int .i64 (-t)) rfl (by kernel_rfl) (by kernel_rfl) (by kernel_rfl) (fun _ _ _ h => h) (.inl ⟨by kernel_rfl, fun _ => by go_simp⟩) ?_
              refine wpAny_all (rs := [4, 6]) (by kernel_rfl) (by simp) (List.forall_mem_cons.2 ⟨?_, List.forall_mem_cons.2 ⟨?_, List.forall_mem_nil _⟩⟩)
              · refine op_read (v := .int .i64 X) rfl (by kernel_rfl) (by go_simp) ?_
                refine wpAny_take (i := 5) (v := .int .i64 T) rfl (by kernel_rfl) (by kernel_rfl) (by kernel_rfl) (fun _ _ _ h => h) (.inl ⟨by kernel_rfl, fun _ => by go_simp⟩) ?_
                refine wpAny_all (rs := [6, 11]) (by kernel_rfl) (by simp) (List.forall_mem_cons.2 ⟨?_, List.forall_mem_cons.2 ⟨?_, List.forall_mem_nil _⟩⟩)
                · refine op_read (v := .int .i64 bb) rfl (by kernel_rfl) (by go_simp) ?_
                  refine wpAny_take (i := 10) (v := .int .i64 Bo) rfl (by kernel_rfl) (by kernel_rfl) (by kernel_rfl) (fun _ _ _ h => h) (.inl ⟨by kernel_rfl, fun _ => by go_simp⟩) ?_
                  refine wpAny_all (rs := [11]) (by kernel_rfl) (by simp) (List.forall_mem_cons.2 ⟨?_, List.forall_mem_nil _⟩)
                  refine op_skip (w' := (W.setCell ⟨w.heap.size + 3, 0, none⟩ (.int .i64 T)).drew) rfl (by kernel_rfl) (by go_simp) ?_
                  refine wpAny_all (rs := [12]) (by kernel_rfl) (by simp) (List.forall_mem_cons.2 ⟨?_, List.forall_mem_nil _⟩)
                  refine op_skip (w' := ((W.setCell ⟨w.heap.size + 3, 0, none⟩ (.int .i64 T)).setCell ⟨w.heap.size + 3 + 1, 0, none⟩ (.int .i64 Bo)).drew) rfl (by kernel_rfl) (by go_simp) ?_
                  exact any_end (by kernel_rfl) ⟨by kernel_rfl, rfl⟩
                · refine op_skip (w' := (W.setCell ⟨w.heap.size + 3, 0, none⟩ (.int .i64 T)).drew) rfl (by kernel_rfl) (by go_simp) ?_
                  refine wpAny_all (rs := [6]) (by kernel_rfl) (by simp) (List.forall_mem_cons.2 ⟨?_, List.forall_mem_nil _⟩)
                  refine op_read (v := .int .i64 bb) rfl (by kernel_rfl) (by go_simp) ?_
                  refine wpAny_take (i := 10) (v := .int .i64 Bo) rfl (by kernel_rfl) (by kernel_rfl) (by kernel_rfl) (fun _ _ _ h => h) (.inl ⟨by kernel_rfl, fun _ => by go_simp⟩) ?_
                  refine wpAny_all (rs := [12]) (by kernel_rfl) (by simp) (List.forall_mem_cons.2 ⟨?_, List.forall_mem_nil _⟩)
                  refine op_skip (w' := ((W.setCell ⟨w.heap.size + 3, 0, none⟩ (.int .i64 T)).setCell ⟨w.heap.size + 3 + 1, 0, none⟩ (.int .i64 Bo)).drew) rfl (by kernel_rfl) (by go_simp) ?_
                  exact any_end (by kernel_rfl) ⟨by kernel_rfl, rfl⟩
              · refine op_read (v := .int .i64 bb) rfl (by kernel_rfl) (by go_simp) ?_
                refine wpAny_take (i := 10) (v := .int .i64 Bo) rfl (by kernel_rfl) (by kernel_rfl) (by kernel_rfl) (fun _ _ _ h => h) (.inl ⟨by kernel_rfl, fun _ => by go_simp⟩) ?_
                refine wpAny_all (rs := [4]) (by kernel_rfl) (by simp) (List.forall_mem_cons.2 ⟨?_, List.forall_mem_nil _⟩)
                refine op_read (v := .int .i64 X) rfl (by kernel_rfl) (by go_simp) ?_
                refine wpAny_take (i := 5) (v := .int .i64 T) rfl (by kernel_rfl) (by kernel_rfl) (by kernel_rfl) (fun _ _ _ h => h) (.inl ⟨by kernel_rfl, fun _ => by go_simp⟩) ?_
                refine wpAny_all (rs := [11]) (by kernel_rfl) (by simp) (List.forall_mem_cons.2 ⟨?_, List.forall_mem_nil _⟩)
                refine op_skip (w' := (W.setCell ⟨w.heap.size + 3, 0, none⟩ (.int .i64 T)).drew) rfl (by kernel_rfl) (by go_simp) ?_
                refine wpAny_all (rs := [12]) (by kernel_rfl) (by simp) (List.forall_mem_cons.2 ⟨?_, List.forall_mem_nil _⟩)
                refine op_skip (w' := ((W.setCell ⟨w.heap.size + 3, 0, none⟩ (.int .i64 T)).setCell ⟨w.heap.size + 3 + 1, 0, none⟩ (.int .i64 Bo)).drew) rfl (by kernel_rfl) (by go_simp) ?_
                exact any_end (by kernel_rfl) ⟨by kernel_rfl, rfl⟩
            · refine op_read (v := .int .i64 X) rfl (by kernel_rfl) (by go_simp) ?_
              refine wpAny_all (rs := [0, 6]) (by kernel_rfl) (by simp) (List.forall_mem_cons.2 ⟨?_, List.forall_mem_cons.2 ⟨?_, List.forall_mem_nil _⟩⟩)
              · refine op_read (v := .int .i64 t) rfl (by kernel_rfl) (by go_simp) ?_
                refine wpAny_take (i := 1) (v := .int .i64 (-t)) rfl (by kernel_rfl) (by kernel_rfl) (by kernel_rfl) (fun _ _ _ h => h) (.inl ⟨by kernel_rfl, fun _ => by go_simp⟩) ?_
                refine wpAny_take (i := 5) (v := .int .i64 T) rfl (by kernel_rfl) (by kernel_rfl) (by kernel_rfl) (fun _ _ _ h => h) (.inl ⟨by kernel_rfl, fun _ => by go_simp⟩) ?_
                refine wpAny_all (rs := [6, 11]) (by kernel_rfl) (by simp) (List.forall_mem_cons.2 ⟨?_, List.forall_mem_cons.2 ⟨?_, List.forall_mem_nil _⟩⟩)
                · refine op_read (v := .int .i64 bb) rfl (by kernel_rfl) (by go_simp) ?_
                  refine wpAny_take (i := 10) (v := .int .i64 Bo) rfl (by kernel_rfl) (by kernel_rfl) (by kernel_rfl) (fun _ _ _ h => h) (.inl ⟨by kernel_rfl, fun _ => by go_simp⟩) ?_
                  refine wpAny_all (rs := [11]) (by kernel_rfl) (by simp) (List.forall_mem_cons.2 ⟨?_, List.forall_mem_nil _⟩)
                  refine op_skip (w' := (W.setCell ⟨w.heap.size + 3, 0, none⟩ (.int .i64 T)).drew) rfl (by kernel_rfl) (by go_simp) ?_
                  refine wpAny_all (rs := [12]) (by kernel_rfl) (by simp) (List.forall_mem_cons.2 ⟨?_, List.forall_mem_nil _⟩)
                  refine op_skip (w' := ((W.setCell ⟨w.heap.size + 3, 0, none⟩ (.int .i64 T)).setCell ⟨w.heap.size + 3 + 1, 0, none⟩ (.int .i64 Bo)).drew) rfl (by kernel_rfl) (by go_simp) ?_
                  exact any_end (by kernel_rfl) ⟨by kernel_rfl, rfl⟩
                · refine op_skip (w' := (W.setCell ⟨w.heap.size + 3, 0, none⟩ (.int .i64 T)).drew) rfl (by kernel_rfl) (by go_simp) ?_
                  refine wpAny_all (rs := [6]) (by kernel_rfl) (by simp) (List.forall_mem_cons.2 ⟨?_, List.forall_mem_nil _⟩)
                  refine op_read (v := .int .i64 bb) rfl (by kernel_rfl) (by go_simp) ?_
                  refine wpAny_take (i := 10) (v := .int .i64 Bo) rfl (by kernel_rfl) (by kernel_rfl) (by kernel_rfl) (fun _ _ _ h => h) (.inl ⟨by kernel_rfl, fun _ => by go_simp⟩) ?_
                  refine wpAny_all (rs := [12]) (by kernel_rfl) (by simp) (List.forall_mem_cons.2 ⟨?_, List.forall_mem_nil _⟩)
                  refine op_skip (w' := ((W.setCell ⟨w.heap.size + 3, 0, none⟩ (.int .i64 T)).setCell ⟨w.heap.size + 3 + 1, 0, none⟩ (.int .i64 Bo)).drew) rfl (by kernel_rfl) (by go_simp) ?_
                  exact any_end (by kernel_rfl) ⟨by kernel_rfl, rfl⟩
              · refine op_read (v := .int .i64 bb) rfl (by kernel_rfl) (by go_simp) ?_
                refine wpAny_take (i := 10) (v := .int .i64 Bo) rfl (by kernel_rfl) (by kernel_rfl) (by kernel_rfl) (fun _ _ _ h => h) (.inl ⟨by kernel_rfl, fun _ => by go_simp⟩) ?_
                refine wpAny_all (rs := [0]) (by kernel_rfl) (by simp) (List.forall_mem_cons.2 ⟨?_, List.forall_mem_nil _⟩)
                refine op_read (v := .int .i64 t) rfl (by kernel_rfl) (by go_simp) ?_
                refine wpAny_take (i := 1) (v := .int .i64 (-t)) rfl (by kernel_rfl) (by kernel_rfl) (by kernel_rfl) (fun _ _ _ h => h) (.inl ⟨by kernel_rfl, fun _ => by go_simp⟩) ?_
                refine wpAny_take (i := 5) (v := .int .i64 T) rfl (by kernel_rfl) (by kernel_rfl) (by kernel_rfl) (fun _ _ _ h => h) (.inl ⟨by kernel_rfl, fun _ => by go_simp⟩) ?_
                refine wpAny_all (rs := [11]) (by kernel_rfl) (by simp) (List.forall_mem_cons.2 ⟨?_, List.forall_mem_nil _⟩)
                refine op_skip (w' := (W.setCell ⟨w.heap.size + 3, 0, none⟩ (.int .i64 T)).drew) rfl (by kernel_rfl) (by go_simp) ?_
                refine wpAny_all (rs := [12]) (by kernel_rfl) (by simp) (List.forall_mem_cons.2 ⟨?_, List.forall_mem_nil _⟩)
                refine op_skip (w' := ((W.setCell ⟨w.heap.size + 3, 0, none⟩ (.int .i64 T)).setCell ⟨w.heap.size + 3 + 1, 0, none⟩ (.int .i64 Bo)).drew) rfl (by kernel_rfl) (by go_simp) ?_
                exact any_end (by kernel_rfl) ⟨by kernel_rfl, rfl⟩
            · refine op_read (v := .int .i64 bb) rfl (by kernel_rfl) (by go_simp) ?_
              refine wpAny_take (i := 10) (v := .int .i64 Bo) rfl (by kernel_rfl) (by kernel_rfl) (by kernel_rfl) (fun _ _ _ h => h) (.inl ⟨by kernel_rfl, fun _ => by go_simp⟩) ?_
              refine wpAny_all (rs := [0, 4]) (by kernel_rfl) (by simp) (List.forall_mem_cons.2 ⟨?_, List.forall_mem_cons.2 ⟨?_, List.forall_mem_nil _⟩⟩)
              · refine op_read (v := .int .i64 t) rfl (by kernel_rfl) (by go_simp) ?_
                refine wpAny_take (i := 1) (v := .int .i64 (-t)) rfl (by kernel_rfl) (by kernel_rfl) (by kernel_rfl) (fun _ _ _ h => h) (.inl ⟨by kernel_rfl, fun _ => by go_simp⟩) ?_
                refine wpAny_all (rs := [4]) (by kernel_rfl) (by simp) (List.forall_mem_cons.2 ⟨?_, List.forall_mem_nil _⟩)
                refine op_read (v := .int .i64 X) rfl (by kernel_rfl) (by go_simp) ?_
                refine wpAny_take (i := 5) (v := .int .i64 T) rfl (by kernel_rfl) (by kernel_rfl) (by kernel_rfl) (fun _ _ _ h => h) (.inl ⟨by kernel_rfl, fun _ => by go_simp⟩) ?_
                refine wpAny_all (rs := [11]) (by kernel_rfl) (by simp) (List.forall_mem_cons.2 ⟨?_, List.forall_mem_nil _⟩)
                refine op_skip (w' := (W.setCell ⟨w.heap.size + 3, 0, none⟩ (.int .i64 T)).drew) rfl (by kernel_rfl) (by go_simp) ?_
                refine wpAny_all (rs := [12]) (by kernel_rfl) (by simp) (List.forall_mem_cons.2 ⟨?_, List.forall_mem_nil _⟩)
                refine op_skip (w' := ((W.setCell ⟨w.heap.size + 3, 0, none⟩ (.int .i64 T)).setCell ⟨w.heap.size + 3 + 1, 0, none⟩ (.int .i64 Bo)).drew) rfl (by kernel_rfl) (by go_simp) ?_
                exact any_end (by kernel_rfl) ⟨by kernel_rfl, rfl⟩
              · refine op_read (v := .int .i64 X) rfl (by kernel_rfl) (by go_simp) ?_
                refine wpAny_all (rs := [0]) (by kernel_rfl) (by simp) (List.forall_mem_cons.2 ⟨?_, List.forall_mem_nil _⟩)
                refine op_read (v := .int .i64 t) rfl (by kernel_rfl) (by go_simp) ?_
                refine wpAny_take (i := 1) (v := .int .i64 (-t)) rfl (by kernel_rfl) (by kernel_rfl) (by kernel_rfl) (fun _ _ _ h => h) (.inl ⟨by kernel_rfl, fun _ => by go_simp⟩) ?_
                refine wpAny_take (i := 5) (v := .int .i64 T) rfl (by kernel_rfl) (by kernel_rfl) (by kernel_rfl) (fun _ _ _ h => h) (.inl ⟨by kernel_rfl, fun _ => by go_simp⟩) ?_
                refine wpAny_all (rs := [11]) (by kernel_rfl) (by simp) (List.forall_mem_cons.2 ⟨?_, List.forall_mem_nil _⟩)
                refine op_skip (w' := (W.setCell ⟨w.heap.size + 3, 0, none⟩ (.int .i64 T)).drew) rfl (by kernel_rfl) (by go_simp) ?_
                refine wpAny_all (rs := [12]) (by kernel_rfl) (by simp) (List.forall_mem_cons.2 ⟨?_, List.forall_mem_nil _⟩)
                refine op_skip (w' := ((W.setCell ⟨w.heap.size + 3, 0, none⟩ (.int .i64 T)).setCell ⟨w.heap.size + 3 + 1, 0, none⟩ (.int .i64 Bo)).drew) rfl (by kernel_rfl) (by go_simp) ?_
                exact any_end (by kernel_rfl) ⟨by kernel_rfl, rfl⟩
        case c13 =>
          rintro _ _ ⟨rfl, rfl⟩
          have k3 := cel_other (cel_set q3 (.int .i64 T)) (.int .i64 Bo) (show w.heap.size + 3 ≠ w.heap.size + 3 + 1 by omega)
          have k4 := cel_set (cel_other q4 (.int .i64 T) (show w.heap.size + 3 + 1 ≠ w.heap.size + 3 by omega)) (.int .i64 Bo)
          have k0 := cel_other (cel_other q0 (.int .i64 T) (show w.heap.size ≠ w.heap.size + 3 by omega)) (.int .i64 Bo) (show w.heap.size ≠ w.heap.size + 3 + 1 by omega)
          have k1 := cel_other (cel_other q1 (.int .i64 T) (show w.heap.size + 1 ≠ w.heap.size + 3 by omega)) (.int .i64 Bo) (show w.heap.size + 1 ≠ w.heap.size + 3 + 1 by omega)
          have k2 := cel_other (cel_other q2 (.int .i64 T) (show w.heap.size + 1 + 1 ≠ w.heap.size + 3 by omega)) (.int .i64 Bo) (show w.heap.size + 1 + 1 ≠ w.heap.size + 3 + 1 by omega)
          have hB1 := kept_set (kept_set hB (p := ⟨w.heap.size + 3, 0, none⟩) (by simp) (.int .i64 T)) (p := ⟨w.heap.size + 3 + 1, 0, none⟩) (by simp; omega) (.int .i64 Bo)
          have hK1 : KeepsOthers W ((W.setCell ⟨w.heap.size + 3, 0, none⟩ (.int .i64 T)).setCell ⟨w.heap.size + 3 + 1, 0, none⟩ (.int .i64 Bo)).drew := ((KeepsOthers.setCell _ _ _).trans (KeepsOthers.setCell _ _ _)).trans (KeepsOthers.drew _)
          have hC1 : KpC (w.heap.size + 3 + 1 + 1) (w.heap.size + 3 + 1 + 1 + 1) W ((W.setCell ⟨w.heap.size + 3, 0, none⟩ (.int .i64 T)).setCell ⟨w.heap.size + 3 + 1, 0, none⟩ (.int .i64 Bo)).drew := by
            refine ⟨?_, ?_⟩
            · exact (Below.heap_setCell _ _ _ _ (show w.heap.size + 3 + 1 + 1 ≠ w.heap.size + 3 + 1 by omega)).trans (Below.heap_setCell _ _ _ _ (show w.heap.size + 3 + 1 + 1 ≠ w.heap.size + 3 by omega))
            · exact (Below.heap_setCell _ _ _ _ (show w.heap.size + 3 + 1 + 1 + 1 ≠ w.heap.size + 3 + 1 by omega)).trans (Below.heap_setCell _ _ _ _ (show w.heap.size + 3 + 1 + 1 + 1 ≠ w.heap.size + 3 by omega))
          replace k3 : Cel ((W.setCell ⟨w.heap.size + 3, 0, none⟩ (.int .i64 T)).setCell ⟨w.heap.size + 3 + 1, 0, none⟩ (.int .i64 Bo)).drew (w.heap.size + 3) 3 (.int .i64 T) := k3
          replace k4 : Cel ((W.setCell ⟨w.heap.size + 3, 0, none⟩ (.int .i64 T)).setCell ⟨w.heap.size + 3 + 1, 0, none⟩ (.int .i64 Bo)).drew (w.heap.size + 3 + 1) 3 (.int .i64 Bo) := k4
          replace k0 : Cel ((W.setCell ⟨w.heap.size + 3, 0, none⟩ (.int .i64 T)).setCell ⟨w.heap.size + 3 + 1, 0, none⟩ (.int .i64 Bo)).drew w.heap.size 3 (.int .i64 0) := k0
          replace k1 : Cel ((W.setCell ⟨w.heap.size + 3, 0, none⟩ (.int .i64 T)).setCell ⟨w.heap.size + 3 + 1, 0, none⟩ (.int .i64 Bo)).drew (w.heap.size + 1) 3 (.int .i64 0) := k1
          replace k2 : Cel ((W.setCell ⟨w.heap.size + 3, 0, none⟩ (.int .i64 T)).setCell ⟨w.heap.size + 3 + 1, 0, none⟩ (.int .i64 Bo)).drew (w.heap.size + 1 + 1) 43 .nilIface := k2
          replace hB1 : Below w.heap.size w ((W.setCell ⟨w.heap.size + 3, 0, none⟩ (.int .i64 T)).setCell ⟨w.heap.size + 3 + 1, 0, none⟩ (.int .i64 Bo)).drew := hB1.drew
          clear q3 q4 q0 q1 q2 c3 c4 f3 f4 cX cY e1 e2 e3
          generalize ((W.setCell ⟨w.heap.size + 3, 0, none⟩ (.int .i64 T)).setCell ⟨w.heap.size + 3 + 1, 0, none⟩ (.int .i64 Bo)).drew = W1 at *
          have c3 := cel_cell k3
          have c4 := cel_cell k4
          have K := hide (And.intro k0 (And.intro k1 (And.intro k2 (And.intro k3 k4))))
          have HB1 := hide hB1
          have HK1 := hide hK1
          have HC1 := hide hC1
          clear k0 k1 k2 k3 k4 hB1 hK1 hC1
          gi_wp2
          refine ⟨trivial, (CallsIn.inRound l (callsIn_wide.2 (divisor_ok T Bo _ (by omega) (by omega)))).mono ?_⟩
          rintro e w2 ⟨rfl, nd, rfl⟩
          rw [Eg.out]
          have k3 : Cel (W1.drewN nd) (w.heap.size + 3) 3 (.int .i64 T) := K.out.2.2.2.1
          have k4 : Cel (W1.drewN nd) (w.heap.size + 3 + 1) 3 (.int .i64 Bo) := K.out.2.2.2.2
          have k0 : Cel (W1.drewN nd) w.heap.size 3 (.int .i64 0) := K.out.1
          have k1 : Cel (W1.drewN nd) (w.heap.size + 1) 3 (.int .i64 0) := K.out.2.1
          have k2 : Cel (W1.drewN nd) (w.heap.size + 1 + 1) 43 .nilIface := K.out.2.2.1
          have hB2 : Below w.heap.size w (W1.drewN nd) := below_drewN HB1.out nd
          have hK2 : KeepsOthers W (W1.drewN nd) := HK1.out.trans (KeepsOthers.of_grownBy (grown_of_kept (kept_drewN W1 nd) none) (by simp))
          have hC2 : KpC (w.heap.size + 3 + 1 + 1) (w.heap.size + 3 + 1 + 1 + 1) W (W1.drewN nd) := HC1.out
          clear K HB1 HK1 HC1 c3 c4
          generalize W1.drewN nd = W1 at *
          have c3 := cel_cell k3
          have c4 := cel_cell k4
          have f3 := cel_free k3
          have f4 := cel_free k4
          have e4 := E4.out
          have e5 := E5.out
          have z1 : (g == 0) = false := beq_eq_false_iff_ne.2 (by omega)
          have z2 : ¬ g = 0 := by omega
          clear E4 E5 Eg
          gi_wp2
          refine region_round (by kernel_rfl) (fun a' w' => a' = { tmps := #[.slice (some ⟨b, o, none⟩) k c, undef, .pointer (some ⟨w.heap.size, 0, none⟩), .pointer (some ⟨w.heap.size + 1, 0, none⟩), .pointer (some ⟨w.heap.size + 1 + 1, 0, none⟩), undef, u6, u7, .pointer (some ⟨w.heap.size + 3, 0, none⟩), .pointer (some ⟨w.heap.size + 3 + 1, 0, none⟩), .slice (some ⟨b, o + x.1 * 2, none⟩) 2 2, .int .i64 g, .slice (some ⟨b, o, none⟩) k c, .int .i64 k, .bool true, .bool false, .bool false, .slice (some ⟨b, o, none⟩) k c, .int .i64 k, .int .i64 ((k : Int) % 2), .bool false, .bool false, undef, undef, undef, undef, undef, .slice (some ⟨b, o, none⟩) k c, .int .i64 k, .int .i64 k, .bool false, u31, u32, u33, u34, u35, u36, u37, u38, .slice (some ⟨b, o, none⟩) k c, .func (.func 50) #[] #[.pointer (some ⟨w.heap.size + 3 + 1 + 1, 0, none⟩), .pointer (some ⟨w.heap.size + 3 + 1 + 1 + 1, 0, none⟩)], .slice (some ⟨b, o + x.1 * 2, none⟩) 2 2, .int .i64 t, .int .i64 (-t), .slice (some ⟨b, o + x.1 * 2, none⟩) 2 2, .pointer (some ⟨b, o + x.1 * 2, none⟩), .int .i64 X, .int .i64 T, .int .i64 bb, .slice (some ⟨b, o + x.1 * 2, none⟩) 2 2, .pointer (some ⟨b, o + x.1 * 2 + 1, none⟩), .int .i64 Y, .int .i64 Bo, .int .i64 T, .int .i64 Bo, .int .i64 g, .int .i64 T, .int .i64 g, .int .i64 U, .int .i64 Bo, .int .i64 g, .int .i64 V, undef, undef, undef, undef, undef, undef, undef, undef, undef, undef, undef, undef, undef], defers := [] } ∧ w' = ((W1.setCell ⟨w.heap.size + 3, 0, none⟩ (.int .i64 U)).setCell ⟨w.heap.size + 3 + 1, 0, none⟩ (.int .i64 V)).drew) ?c15 (by kernel_rfl) ?r15
          case r15 =>
            dsimp only [List.size_toArray, List.length_cons, List.length_nil, Nat.reduceAdd]
            refine wpAny_take (i := 1) (v := .int .i64 g) rfl (by kernel_rfl) (by kernel_rfl) (by kernel_rfl) (fun _ _ _ h => h) (.inl ⟨by kernel_rfl, fun _ => by go_simp⟩) ?_
            refine wpAny_take (i := 4) (v := .int .i64 g) rfl (by kernel_rfl) (by kernel_rfl) (by kernel_rfl) (fun _ _ _ h => h) (.inl ⟨by kernel_rfl, fun _ => by go_simp⟩) ?_
            refine wpAny_all (rs := [0, 3]) (by kernel_rfl) (by simp) (List.forall_mem_cons.2 ⟨?_, List.forall_mem_cons.2 ⟨?_, List.forall_mem_nil _⟩⟩)
            · refine op_read (v := .int .i64 T) rfl (by kernel_rfl) (by go_simp) ?_
              refine wpAny_take (i := 2) (v := .int .i64 U) rfl (by kernel_rfl) (by kernel_rfl) (by kernel_rfl) (fun _ _ _ h => h) (.inl ⟨by kernel_rfl, fun _ => by go_simp⟩) ?_
              refine wpAny_all (rs := [3, 6]) (by kernel_rfl) (by simp) (List.forall_mem_cons.2 ⟨?_, List.forall_mem_cons.2 ⟨?_, List.forall_mem_nil _⟩⟩)
              · refine op_read (v := .int .i64 Bo) rfl (by kernel_rfl) (by go_simp) ?_
                refine wpAny_take (i := 5) (v := .int .i64 V) rfl (by kernel_rfl) (by kernel_rfl) (by kernel_rfl) (fun _ _ _ h => h) (.inl ⟨by kernel_rfl, fun _ => by go_simp⟩) ?_
                refine wpAny_all (rs := [6]) (by kernel_rfl) (by simp) (List.forall_mem_cons.2 ⟨?_, List.forall_mem_nil _⟩)
                refine op_skip (w' := (W1.setCell ⟨w.heap.size + 3, 0, none⟩ (.int .i64 U)).drew) rfl (by kernel_rfl) (by go_simp) ?_
                refine wpAny_all (rs := [7]) (by kernel_rfl) (by simp) (List.forall_mem_cons.2 ⟨?_, List.forall_mem_nil _⟩)
                refine op_skip (w' := ((W1.setCell ⟨w.heap.size + 3, 0, none⟩ (.int .i64 U)).setCell ⟨w.heap.size + 3 + 1, 0, none⟩ (.int .i64 V)).drew) rfl (by kernel_rfl) (by go_simp) ?_
                exact any_end (by kernel_rfl) ⟨by kernel_rfl, rfl⟩
              · refine op_skip (w' := (W1.setCell ⟨w.heap.size + 3, 0, none⟩ (.int .i64 U)).drew) rfl (by kernel_rfl) (by go_simp) ?_
                refine wpAny_all (rs := [3]) (by kernel_rfl) (by simp) (List.forall_mem_cons.2 ⟨?_, List.forall_mem_nil _⟩)
                refine op_read (v := .int .i64 Bo) rfl (by kernel_rfl) (by go_simp) ?_
                refine wpAny_take (i := 5) (v := .int .i64 V) rfl (by kernel_rfl) (by kernel_rfl) (by kernel_rfl) (fun _ _ _ h => h) (.inl ⟨by kernel_rfl, fun _ => by go_simp⟩) ?_
                refine wpAny_all (rs := [7]) (by kernel_rfl) (by simp) (List.forall_mem_cons.2 ⟨?_, List.forall_mem_nil _⟩)
                refine op_skip (w' := ((W1.setCell ⟨w.heap.size + 3, 0, none⟩ (.int .i64 U)).setCell ⟨w.heap.size + 3 + 1, 0, none⟩ (.int .i64 V)).drew) rfl (by kernel_rfl) (by go_simp) ?_
                exact any_end (by kernel_rfl) ⟨by kernel_rfl, rfl⟩
            · refine op_read (v := .int .i64 Bo) rfl (by kernel_rfl) (by go_simp) ?_
              refine wpAny_take (i := 5) (v := .int .i64 V) rfl (by kernel_rfl) (by kernel_rfl) (by kernel_rfl) (fun _ _ _ h => h) (.inl ⟨by kernel_rfl, fun _ => by go_simp⟩) ?_
              refine wpAny_all (rs := [0]) (by kernel_rfl) (by simp) (List.forall_mem_cons.2 ⟨?_, List.forall_mem_nil _⟩)
              refine op_read (v := .int .i64 T) rfl (by kernel_rfl) (by go_simp) ?_
              refine wpAny_take (i := 2) (v := .int .i64 U) rfl (by kernel_rfl) (by kernel_rfl) (by kernel_rfl) (fun _ _ _ h => h) (.inl ⟨by kernel_rfl, fun _ => by go_simp⟩) ?_
              refine wpAny_all (rs := [6]) (by kernel_rfl) (by simp) (List.forall_mem_cons.2 ⟨?_, List.forall_mem_nil _⟩)
              refine op_skip (w' := (W1.setCell ⟨w.heap.size + 3, 0, none⟩ (.int .i64 U)).drew) rfl (by kernel_rfl) (by go_simp) ?_
              refine wpAny_all (rs := [7]) (by kernel_rfl) (by simp) (List.forall_mem_cons.2 ⟨?_, List.forall_mem_nil _⟩)
              refine op_skip (w' := ((W1.setCell ⟨w.heap.size + 3, 0, none⟩ (.int .i64 U)).setCell ⟨w.heap.size + 3 + 1, 0, none⟩ (.int .i64 V)).drew) rfl (by kernel_rfl) (by go_simp) ?_
              exact any_end (by kernel_rfl) ⟨by kernel_rfl, rfl⟩
          case c15 =>
            rintro _ _ ⟨rfl, rfl⟩
            have j3 : Cel ((W1.setCell ⟨w.heap.size + 3, 0, none⟩ (.int .i64 U)).setCell ⟨w.heap.size + 3 + 1, 0, none⟩ (.int .i64 V)).drew (w.heap.size + 3) 3 (.int .i64 U) := cel_other (cel_set k3 (.int .i64 U)) (.int .i64 V) (show w.heap.size + 3 ≠ w.heap.size + 3 + 1 by omega)
            have j4 : Cel ((W1.setCell ⟨w.heap.size + 3, 0, none⟩ (.int .i64 U)).setCell ⟨w.heap.size + 3 + 1, 0, none⟩ (.int .i64 V)).drew (w.heap.size + 3 + 1) 3 (.int .i64 V) := cel_set (cel_other k4 (.int .i64 U) (show w.heap.size + 3 + 1 ≠ w.heap.size + 3 by omega)) (.int .i64 V)
            have j0 : Cel ((W1.setCell ⟨w.heap.size + 3, 0, none⟩ (.int .i64 U)).setCell ⟨w.heap.size + 3 + 1, 0, none⟩ (.int .i64 V)).drew w.heap.size 3 (.int .i64 0) := cel_other (cel_other k0 (.int .i64 U) (show w.heap.size ≠ w.heap.size + 3 by omega)) (.int .i64 V) (show w.heap.size ≠ w.heap.size + 3 + 1 by omega)
            have j1 : Cel ((W1.setCell ⟨w.heap.size + 3, 0, none⟩ (.int .i64 U)).setCell ⟨w.heap.size + 3 + 1, 0, none⟩ (.int .i64 V)).drew (w.heap.size + 1) 3 (.int .i64 0) := cel_other (cel_other k1 (.int .i64 U) (show w.heap.size + 1 ≠ w.heap.size + 3 by omega)) (.int .i64 V) (show w.heap.size + 1 ≠ w.heap.size + 3 + 1 by omega)
            have j2 : Cel ((W1.setCell ⟨w.heap.size + 3, 0, none⟩ (.int .i64 U)).setCell ⟨w.heap.size + 3 + 1, 0, none⟩ (.int .i64 V)).drew (w.heap.size + 1 + 1) 43 .nilIface := cel_other (cel_other k2 (.int .i64 U) (show w.heap.size + 1 + 1 ≠ w.heap.size + 3 by omega)) (.int .i64 V) (show w.heap.size + 1 + 1 ≠ w.heap.size + 3 + 1 by omega)
            have hB3 : Below w.heap.size w ((W1.setCell ⟨w.heap.size + 3, 0, none⟩ (.int .i64 U)).setCell ⟨w.heap.size + 3 + 1, 0, none⟩ (.int .i64 V)).drew := (kept_set (kept_set hB2 (p := ⟨w.heap.size + 3, 0, none⟩) (by simp) (.int .i64 U)) (p := ⟨w.heap.size + 3 + 1, 0, none⟩) (by simp; omega) (.int .i64 V)).drew
            have hK3 : KeepsOthers W ((W1.setCell ⟨w.heap.size + 3, 0, none⟩ (.int .i64 U)).setCell ⟨w.heap.size + 3 + 1, 0, none⟩ (.int .i64 V)).drew := hK2.trans (((KeepsOthers.setCell _ _ _).trans (KeepsOthers.setCell _ _ _)).trans (KeepsOthers.drew _))
            have hC3 : KpC (w.heap.size + 3 + 1 + 1) (w.heap.size + 3 + 1 + 1 + 1) W ((W1.setCell ⟨w.heap.size + 3, 0, none⟩ (.int .i64 U)).setCell ⟨w.heap.size + 3 + 1, 0, none⟩ (.int .i64 V)).drew := by
              refine kpC_t hC2 ⟨?_, ?_⟩
              · exact (Below.heap_setCell _ _ _ _ (show w.heap.size + 3 + 1 + 1 ≠ w.heap.size + 3 + 1 by omega)).trans (Below.heap_setCell _ _ _ _ (show w.heap.size + 3 + 1 + 1 ≠ w.heap.size + 3 by omega))
              · exact (Below.heap_setCell _ _ _ _ (show w.heap.size + 3 + 1 + 1 + 1 ≠ w.heap.size + 3 + 1 by omega)).trans (Below.heap_setCell _ _ _ _ (show w.heap.size + 3 + 1 + 1 + 1 ≠ w.heap.size + 3 by omega))
            clear k3 k4 k0 k1 k2 hB2 hK2 hC2 c3 c4 f3 f4 e4 e5 z1 z2
            generalize ((W1.setCell ⟨w.heap.size + 3, 0, none⟩ (.int .i64 U)).setCell ⟨w.heap.size + 3 + 1, 0, none⟩ (.int .i64 V)).drew = W1 at *
            have c3 := cel_cell j3
            have c4 := cel_cell j4
            have J := hide (And.intro j0 (And.intro j1 (And.intro j2 (And.intro j3 j4))))
            have HB3 := hide hB3
            have HK3 := hide hK3
            have HC3 := hide hC3
            clear j0 j1 j2 j3 j4 hB3 hK3 hC3
            by_cases hu : -1000000000 ≤ U ∧ U ≤ 1000000000
            · by_cases hv : V ≤ 1000000000
              · gi_wp2
                refine ⟨trivial, (CallsIn.inRound l (callsIn_wide.2 (within_t U _ _ _ hu.1 hu.2))).mono ?_⟩
                rintro e w2 ⟨rfl, rfl⟩
                gi_wp2
                exact ⟨HK3.out, HC3.out, ⟨U, V, by rw [hst.out, if_pos ⟨hu.1, hu.2, hv⟩], hu, ⟨bV.1, hv⟩, J.out.2.2.2.1, J.out.2.2.2.2, J.out.1, J.out.2.1, J.out.2.2.1⟩, HB3.out⟩
              · have hn : Hid (accP zs (pre ++ [x]) = none) := by rw [Hid, hst.out, if_neg (fun h => hv h.2.2)]
                gi_wp2
                refine ⟨trivial, (CallsIn.inRound l (callsIn_wide.2 (within_t U _ _ _ hu.1 hu.2))).mono ?_⟩
                rintro e w2 ⟨rfl, rfl⟩
                gi_wp2
                have d0 := cel_cell J.out.1
                have d1 := cel_cell J.out.2.1
                have d2 := cel_cell J.out.2.2.1
                have f0 := cel_free J.out.1
                have f1 := cel_free J.out.2.1
                have f2 := cel_free J.out.2.2.1
                have l0 := cel_lt J.out.1
                have l1 := cel_lt J.out.2.1
                have l2 := cel_lt J.out.2.2.1
                have l4 := cel_lt J.out.2.2.2.2
                refine region_round (by kernel_rfl) (fun a' w' => a' = { tmps := #[.slice (some ⟨b, o, none⟩) k c, undef, .pointer (some ⟨w.heap.size, 0, none⟩), .pointer (some ⟨w.heap.size + 1, 0, none⟩), .pointer (some ⟨w.heap.size + 1 + 1, 0, none⟩), undef, u6, u7, .pointer (some ⟨w.heap.size + 3, 0, none⟩), .pointer (some ⟨w.heap.size + 3 + 1, 0, none⟩), .slice (some ⟨b, o + x.1 * 2, none⟩) 2 2, .int .i64 g, .slice (some ⟨b, o, none⟩) k c, .int .i64 k, .bool true, .bool false, .bool false, .slice (some ⟨b, o, none⟩) k c, .int .i64 k, .int .i64 ((k : Int) % 2), .bool false, .bool false, undef, undef, undef, undef, undef, .slice (some ⟨b, o, none⟩) k c, .int .i64 k, .int .i64 k, .bool false, u31, u32, u33, u34, u35, u36, u37, u38, .slice (some ⟨b, o, none⟩) k c, .func (.func 50) #[] #[.pointer (some ⟨w.heap.size + 3 + 1 + 1, 0, none⟩), .pointer (some ⟨w.heap.size + 3 + 1 + 1 + 1, 0, none⟩)], .slice (some ⟨b, o + x.1 * 2, none⟩) 2 2, .int .i64 t, .int .i64 (-t), .slice (some ⟨b, o + x.1 * 2, none⟩) 2 2, .pointer (some ⟨b, o + x.1 * 2, none⟩), .int .i64 X, .int .i64 T, .int .i64 bb, .slice (some ⟨b, o + x.1 * 2, none⟩) 2 2, .pointer (some ⟨b, o + x.1 * 2 + 1, none⟩), .int .i64 Y, .int .i64 Bo, .int .i64 T, .int .i64 Bo, .int .i64 g, .int .i64 T, .int .i64 g, .int .i64 U, .int .i64 Bo, .int .i64 g, .int .i64 V, .int .i64 U, .bool true, .bool false, .bool false, .int .i64 V, .bool true, .bool true, .int .i64 V, .agg #[.int .i64 V], .pointer (some ⟨W1.heap.size, 0, none⟩), .iface 57 (.pointer (some ⟨W1.heap.size, 0, none⟩)), undef, undef], defers := [] } ∧ w' = ((((W1.setCell ⟨w.heap.size, 0, none⟩ (.int .i64 0)).setCell ⟨w.heap.size + 1, 0, none⟩ (.int .i64 0)).setCell ⟨w.heap.size + 1 + 1, 0, none⟩ (.iface 57 (.pointer (some ⟨W1.heap.size, 0, none⟩)))).alloc (.cells #[.int .i64 V] 59)).drew) ?c17v (by kernel_rfl) ?r17v
                case r17v =>
                  dsimp only [List.size_toArray, List.length_cons, List.length_nil, Nat.reduceAdd]
                  refine wpAny_all (rs := [0, 4]) (by kernel_rfl) (by simp) (List.forall_mem_cons.2 ⟨?_, List.forall_mem_cons.2 ⟨?_, List.forall_mem_nil _⟩⟩)
                  · refine op_read (v := .int .i64 V) rfl (by kernel_rfl) (by go_simp) ?_
                    refine wpAny_take (i := 1) (v := .agg #[.int .i64 V]) rfl (by kernel_rfl) (by kernel_rfl) (by kernel_rfl) (fun _ _ _ h => h) (.inl ⟨by kernel_rfl, fun _ => by go_simp⟩) ?_
                    refine wpAny_all (rs := [2, 4]) (by kernel_rfl) (by simp) (List.forall_mem_cons.2 ⟨?_, List.forall_mem_cons.2 ⟨?_, List.forall_mem_nil _⟩⟩)
                    · refine op_value (v := .pointer (some ⟨W1.heap.size, 0, none⟩)) rfl (by kernel_rfl) (by go_simp; rfl) ?_
                      refine wpAny_take (i := 3) (v := .iface 57 (.pointer (some ⟨W1.heap.size, 0, none⟩))) rfl (by kernel_rfl) (by kernel_rfl) (by kernel_rfl) (fun _ _ _ h => h) (.inl ⟨by kernel_rfl, fun _ => by go_simp⟩) ?_
                      refine wpAny_all (rs := [4]) (by kernel_rfl) (by simp) (List.forall_mem_cons.2 ⟨?_, List.forall_mem_nil _⟩)
                      refine op_skip rfl (by kernel_rfl) (by go_simp; rfl) ?_
                      refine wpAny_all (rs := [5]) (by kernel_rfl) (by simp) (List.forall_mem_cons.2 ⟨?_, List.forall_mem_nil _⟩)
                      refine op_skip rfl (by kernel_rfl) (by go_simp; rfl) ?_
                      refine wpAny_all (rs := [6]) (by kernel_rfl) (by simp) (List.forall_mem_cons.2 ⟨?_, List.forall_mem_nil _⟩)
                      refine op_skip rfl (by kernel_rfl) (by go_simp; rfl) ?_
                      exact any_end (by kernel_rfl) ⟨by kernel_rfl, rfl⟩
                    · refine op_skip rfl (by kernel_rfl) (by go_simp; rfl) ?_
                      refine wpAny_all (rs := [2, 5]) (by kernel_rfl) (by simp) (List.forall_mem_cons.2 ⟨?_, List.forall_mem_cons.2 ⟨?_, List.forall_mem_nil _⟩⟩)
                      · refine op_value (v := .pointer (some ⟨W1.heap.size, 0, none⟩)) rfl (by kernel_rfl) (by go_simp; rfl) ?_
                        refine wpAny_take (i := 3) (v := .iface 57 (.pointer (some ⟨W1.heap.size, 0, none⟩))) rfl (by kernel_rfl) (by kernel_rfl) (by kernel_rfl) (fun _ _ _ h => h) (.inl ⟨by kernel_rfl, fun _ => by go_simp⟩) ?_
                        refine wpAny_all (rs := [5]) (by kernel_rfl) (by simp) (List.forall_mem_cons.2 ⟨?_, List.forall_mem_nil _⟩)
                        refine op_skip rfl (by kernel_rfl) (by go_simp; rfl) ?_
                        refine wpAny_all (rs := [6]) (by kernel_rfl) (by simp) (List.forall_mem_cons.2 ⟨?_, List.forall_mem_nil _⟩)
                        refine op_skip rfl (by kernel_rfl) (by go_simp; rfl) ?_
                        exact any_end (by kernel_rfl) ⟨by kernel_rfl, rfl⟩
                      · refine op_skip rfl (by kernel_rfl) (by go_simp; rfl) ?_
                        refine wpAny_all (rs := [2]) (by kernel_rfl) (by simp) (List.forall_mem_cons.2 ⟨?_, List.forall_mem_nil _⟩)
                        refine op_value (v := .pointer (some ⟨W1.heap.size, 0, none⟩)) rfl (by kernel_rfl) (by go_simp; rfl) ?_
                        refine wpAny_take (i := 3) (v := .iface 57 (.pointer (some ⟨W1.heap.size, 0, none⟩))) rfl (by kernel_rfl) (by kernel_rfl) (by kernel_rfl) (fun _ _ _ h => h) (.inl ⟨by kernel_rfl, fun _ => by go_simp⟩) ?_
                        refine wpAny_all (rs := [6]) (by kernel_rfl) (by simp) (List.forall_mem_cons.2 ⟨?_, List.forall_mem_nil _⟩)
                        refine op_skip rfl (by kernel_rfl) (by go_simp; rfl) ?_
                        exact any_end (by kernel_rfl) ⟨by kernel_rfl, rfl⟩
                  · refine op_skip rfl (by kernel_rfl) (by go_simp; rfl) ?_
                    refine wpAny_all (rs := [0, 5]) (by kernel_rfl) (by simp) (List.forall_mem_cons.2 ⟨?_, List.forall_mem_cons.2 ⟨?_, List.forall_mem_nil _⟩⟩)
                    · refine op_read (v := .int .i64 V) rfl (by kernel_rfl) (by go_simp) ?_
                      refine wpAny_take (i := 1) (v := .agg #[.int .i64 V]) rfl (by kernel_rfl) (by kernel_rfl) (by kernel_rfl) (fun _ _ _ h => h) (.inl ⟨by kernel_rfl, fun _ => by go_simp⟩) ?_
                      refine wpAny_all (rs := [2, 5]) (by kernel_rfl) (by simp) (List.forall_mem_cons.2 ⟨?_, List.forall_mem_cons.2 ⟨?_, List.forall_mem_nil _⟩⟩)
                      · refine op_value (v := .pointer (some ⟨W1.heap.size, 0, none⟩)) rfl (by kernel_rfl) (by go_simp; rfl) ?_
                        refine wpAny_take (i := 3) (v := .iface 57 (.pointer (some ⟨W1.heap.size, 0, none⟩))) rfl (by kernel_rfl) (by kernel_rfl) (by kernel_rfl) (fun _ _ _ h => h) (.inl ⟨by kernel_rfl, fun _ => by go_simp⟩) ?_
                        refine wpAny_all (rs := [5]) (by kernel_rfl) (by simp) (List.forall_mem_cons.2 ⟨?_, List.forall_mem_nil _⟩)
                        refine op_skip rfl (by kernel_rfl) (by go_simp; rfl) ?_
                        refine wpAny_all (rs := [6]) (by kernel_rfl) (by simp) (List.forall_mem_cons.2 ⟨?_, List.forall_mem_nil _⟩)
                        refine op_skip rfl (by kernel_rfl) (by go_simp; rfl) ?_
                        exact any_end (by kernel_rfl) ⟨by kernel_rfl, rfl⟩
                      · refine op_skip rfl (by kernel_rfl) (by go_simp; rfl) ?_
                        refine wpAny_all (rs := [2]) (by kernel_rfl) (by simp) (List.forall_mem_cons.2 ⟨?_, List.forall_mem_nil _⟩)
                        refine op_value (v := .pointer (some ⟨W1.heap.size, 0, none⟩)) rfl (by kernel_rfl) (by go_simp; rfl) ?_
                        refine wpAny_take (i := 3) (v := .iface 57 (.pointer (some ⟨W1.heap.size, 0, none⟩))) rfl (by kernel_rfl) (by kernel_rfl) (by kernel_rfl) (fun _ _ _ h => h) (.inl ⟨by kernel_rfl, fun _ => by go_simp⟩) ?_
                        refine wpAny_all (rs := [6]) (by kernel_rfl) (by simp) (List.forall_mem_cons.2 ⟨?_, List.forall_mem_nil _⟩)
                        refine op_skip rfl (by kernel_rfl) (by go_simp; rfl) ?_
                        exact any_end (by kernel_rfl) ⟨by kernel_rfl, rfl⟩
                    · refine op_skip rfl (by kernel_rfl) (by go_simp; rfl) ?_
                      refine wpAny_all (rs := [0]) (by kernel_rfl) (by simp) (List.forall_mem_cons.2 ⟨?_, List.forall_mem_nil _⟩)
                      refine op_read (v := .int .i64 V) rfl (by kernel_rfl) (by go_simp) ?_
                      refine wpAny_take (i := 1) (v := .agg #[.int .i64 V]) rfl (by kernel_rfl) (by kernel_rfl) (by kernel_rfl) (fun _ _ _ h => h) (.inl ⟨by kernel_rfl, fun _ => by go_simp⟩) ?_
                      refine wpAny_all (rs := [2]) (by kernel_rfl) (by simp) (List.forall_mem_cons.2 ⟨?_, List.forall_mem_nil _⟩)
                      refine op_value (v := .pointer (some ⟨W1.heap.size, 0, none⟩)) rfl (by kernel_rfl) (by go_simp; rfl) ?_
                      refine wpAny_take (i := 3) (v := .iface 57 (.pointer (some ⟨W1.heap.size, 0, none⟩))) rfl (by kernel_rfl) (by kernel_rfl) (by kernel_rfl) (fun _ _ _ h => h) (.inl ⟨by kernel_rfl, fun _ => by go_simp⟩) ?_
                      refine wpAny_all (rs := [6]) (by kernel_rfl) (by simp) (List.forall_mem_cons.2 ⟨?_, List.forall_mem_nil _⟩)
                      refine op_skip rfl (by kernel_rfl) (by go_simp; rfl) ?_
                      exact any_end (by kernel_rfl) ⟨by kernel_rfl, rfl⟩
                case c17v =>
                  rintro _ _ ⟨rfl, rfl⟩
                  gi_wp2
                  exact ⟨HK3.out.trans (((((KeepsOthers.setCell _ _ _).trans (KeepsOthers.setCell _ _ _)).trans (KeepsOthers.setCell _ _ _)).trans (KeepsOthers.alloc _ _)).trans (KeepsOthers.drew _)),
                    ⟨⟨W1.heap.size, 0, none⟩, rfl, hn.out,
                      cel_alloc (cel_other (cel_other (cel_set J.out.1 _) _ (by omega)) _ (by omega)) _,
                      cel_alloc (cel_other (cel_set (cel_other J.out.2.1 _ (by omega)) _) _ (by omega)) _,
                      cel_alloc (cel_set (cel_other (cel_other J.out.2.2.1 _ (by omega)) _ (by omega)) _) _⟩,
                    (kept_alloc (kept_set (kept_set (kept_set HB3.out (p := ⟨w.heap.size, 0, none⟩) (Nat.le_refl _) _) (p := ⟨w.heap.size + 1, 0, none⟩) (by simp) _) (p := ⟨w.heap.size + 1 + 1, 0, none⟩) (by simp; omega) _) _).drew⟩
            · have hn : Hid (accP zs (pre ++ [x]) = none) := by rw [Hid, hst.out, if_neg (fun h => hu ⟨h.1, h.2.1⟩)]
              have Hu := hide hu
              clear hu
              gi_wp2
              refine ⟨trivial, (CallsIn.inRound l (callsIn_wide.2 (within_f U _ _ _ Hu.out))).mono ?_⟩
              rintro e w2 ⟨rfl, rfl⟩
              gi_wp2
              have d0 := cel_cell J.out.1
              have d1 := cel_cell J.out.2.1
              have d2 := cel_cell J.out.2.2.1
              have f0 := cel_free J.out.1
              have f1 := cel_free J.out.2.1
              have f2 := cel_free J.out.2.2.1
              have l0 := cel_lt J.out.1
              have l1 := cel_lt J.out.2.1
              have l2 := cel_lt J.out.2.2.1
              have l4 := cel_lt J.out.2.2.2.2
              refine region_round (by kernel_rfl) (fun a' w' => a' = { tmps := #[.slice (some ⟨b, o, none⟩) k c, undef, .pointer (some ⟨w.heap.size, 0, none⟩), .pointer (some ⟨w.heap.size + 1, 0, none⟩), .pointer (some ⟨w.heap.size + 1 + 1, 0, none⟩), undef, u6, u7, .pointer (some ⟨w.heap.size + 3, 0, none⟩), .pointer (some ⟨w.heap.size + 3 + 1, 0, none⟩), .slice (some ⟨b, o + x.1 * 2, none⟩) 2 2, .int .i64 g, .slice (some ⟨b, o, none⟩) k c, .int .i64 k, .bool true, .bool false, .bool false, .slice (some ⟨b, o, none⟩) k c, .int .i64 k, .int .i64 ((k : Int) % 2), .bool false, .bool false, undef, undef, undef, undef, undef, .slice (some ⟨b, o, none⟩) k c, .int .i64 k, .int .i64 k, .bool false, u31, u32, u33, u34, u35, u36, u37, u38, .slice (some ⟨b, o, none⟩) k c, .func (.func 50) #[] #[.pointer (some ⟨w.heap.size + 3 + 1 + 1, 0, none⟩), .pointer (some ⟨w.heap.size + 3 + 1 + 1 + 1, 0, none⟩)], .slice (some ⟨b, o + x.1 * 2, none⟩) 2 2, .int .i64 t, .int .i64 (-t), .slice (some ⟨b, o + x.1 * 2, none⟩) 2 2, .pointer (some ⟨b, o + x.1 * 2, none⟩), .int .i64 X, .int .i64 T, .int .i64 bb, .slice (some ⟨b, o + x.1 * 2, none⟩) 2 2, .pointer (some ⟨b, o + x.1 * 2 + 1, none⟩), .int .i64 Y, .int .i64 Bo, .int .i64 T, .int .i64 Bo, .int .i64 g, .int .i64 T, .int .i64 g, .int .i64 U, .int .i64 Bo, .int .i64 g, .int .i64 V, .int .i64 U, .bool false, .bool true, .bool true, undef, undef, .bool true, .int .i64 V, .agg #[.int .i64 V], .pointer (some ⟨W1.heap.size, 0, none⟩), .iface 57 (.pointer (some ⟨W1.heap.size, 0, none⟩)), undef, undef], defers := [] } ∧ w' = ((((W1.setCell ⟨w.heap.size, 0, none⟩ (.int .i64 0)).setCell ⟨w.heap.size + 1, 0, none⟩ (.int .i64 0)).setCell ⟨w.heap.size + 1 + 1, 0, none⟩ (.iface 57 (.pointer (some ⟨W1.heap.size, 0, none⟩)))).alloc (.cells #[.int .i64 V] 59)).drew) ?c17u (by kernel_rfl) ?r17u
              case r17u =>
                dsimp only [List.size_toArray, List.length_cons, List.length_nil, Nat.reduceAdd]
                refine wpAny_all (rs := [0, 4]) (by kernel_rfl) (by simp) (List.forall_mem_cons.2 ⟨?_, List.forall_mem_cons.2 ⟨?_, List.forall_mem_nil _⟩⟩)
                · refine op_read (v := .int .i64 V) rfl (by kernel_rfl) (by go_simp) ?_
                  refine wpAny_take (i := 1) (v := .agg #[.int .i64 V]) rfl (by kernel_rfl) (by kernel_rfl) (by kernel_rfl) (fun _ _ _ h => h) (.inl ⟨by kernel_rfl, fun _ => by go_simp⟩) ?_
                  refine wpAny_all (rs := [2, 4]) (by kernel_rfl) (by simp) (List.forall_mem_cons.2 ⟨?_, List.forall_mem_cons.2 ⟨?_, List.forall_mem_nil _⟩⟩)
                  · refine op_value (v := .pointer (some ⟨W1.heap.size, 0, none⟩)) rfl (by kernel_rfl) (by go_simp; rfl) ?_
                    refine wpAny_take (i := 3) (v := .iface 57 (.pointer (some ⟨W1.heap.size, 0, none⟩))) rfl (by kernel_rfl) (by kernel_rfl) (by kernel_rfl) (fun _ _ _ h => h) (.inl ⟨by kernel_rfl, fun _ => by go_simp⟩) ?_
                    refine wpAny_all (rs := [4]) (by kernel_rfl) (by simp) (List.forall_mem_cons.2 ⟨?_, List.forall_mem_nil _⟩)
                    refine op_skip rfl (by kernel_rfl) (by go_simp; rfl) ?_
                    refine wpAny_all (rs := [5]) (by kernel_rfl) (by simp) (List.forall_mem_cons.2 ⟨?_, List.forall_mem_nil _⟩)
                    refine op_skip rfl (by kernel_rfl) (by go_simp; rfl) ?_
                    refine wpAny_all (rs := [6]) (by kernel_rfl) (by simp) (List.forall_mem_cons.2 ⟨?_, List.forall_mem_nil _⟩)
                    refine op_skip rfl (by kernel_rfl) (by go_simp; rfl) ?_
                    exact any_end (by kernel_rfl) ⟨by kernel_rfl, rfl⟩
                  · refine op_skip rfl (by kernel_rfl) (by go_simp; rfl) ?_
                    refine wpAny_all (rs := [2, 5]) (by kernel_rfl) (by simp) (List.forall_mem_cons.2 ⟨?_, List.forall_mem_cons.2 ⟨?_, List.forall_mem_nil _⟩⟩)
                    · refine op_value (v := .pointer (some ⟨W1.heap.size, 0, none⟩)) rfl (by kernel_rfl) (by go_simp; rfl) ?_
                      refine wpAny_take (i := 3) (v := .iface 57 (.pointer (some ⟨W1.heap.size, 0, none⟩))) rfl (by kernel_rfl) (by kernel_rfl) (by kernel_rfl) (fun _ _ _ h => h) (.inl ⟨by kernel_rfl, fun _ => by go_simp⟩) ?_
                      refine wpAny_all (rs := [5]) (by kernel_rfl) (by simp) (List.forall_mem_cons.2 ⟨?_, List.forall_mem_nil _⟩)
                      refine op_skip rfl (by kernel_rfl) (by go_simp; rfl) ?_
                      refine wpAny_all (rs := [6]) (by kernel_rfl) (by simp) (List.forall_mem_cons.2 ⟨?_, List.forall_mem_nil _⟩)
                      refine op_skip rfl (by kernel_rfl) (by go_simp; rfl) ?_
                      exact any_end (by kernel_rfl) ⟨by kernel_rfl, rfl⟩
                    · refine op_skip rfl (by kernel_rfl) (by go_simp; rfl) ?_
                      refine wpAny_all (rs := [2]) (by kernel_rfl) (by simp) (List.forall_mem_cons.2 ⟨?_, List.forall_mem_nil _⟩)
                      refine op_value (v := .pointer (some ⟨W1.heap.size, 0, none⟩)) rfl (by kernel_rfl) (by go_simp; rfl) ?_
                      refine wpAny_take (i := 3) (v := .iface 57 (.pointer (some ⟨W1.heap.size, 0, none⟩))) rfl (by kernel_rfl) (by kernel_rfl) (by kernel_rfl) (fun _ _ _ h => h) (.inl ⟨by kernel_rfl, fun _ => by go_simp⟩) ?_
                      refine wpAny_all (rs := [6]) (by kernel_rfl) (by simp) (List.forall_mem_cons.2 ⟨?_, List.forall_mem_nil _⟩)
                      refine op_skip rfl (by kernel_rfl) (by go_simp; rfl) ?_
                      exact any_end (by kernel_rfl) ⟨by kernel_rfl, rfl⟩
                · refine op_skip rfl (by kernel_rfl) (by go_simp; rfl) ?_
                  refine wpAny_all (rs := [0, 5]) (by kernel_rfl) (by simp) (List.forall_mem_cons.2 ⟨?_, List.forall_mem_cons.2 ⟨?_, List.forall_mem_nil _⟩⟩)
                  · refine op_read (v := .int .i64 V) rfl (by kernel_rfl) (by go_simp) ?_
                    refine wpAny_take (i := 1) (v := .agg #[.int .i64 V]) rfl (by kernel_rfl) (by kernel_rfl) (by kernel_rfl) (fun _ _ _ h => h) (.inl ⟨by kernel_rfl, fun _ => by go_simp⟩) ?_
                    refine wpAny_all (rs := [2, 5]) (by kernel_rfl) (by simp) (List.forall_mem_cons.2 ⟨?_, List.forall_mem_cons.2 ⟨?_, List.forall_mem_nil _⟩⟩)
                    · refine op_value (v := .pointer (some ⟨W1.heap.size, 0, none⟩)) rfl (by kernel_rfl) (by go_simp; rfl) ?_
                      refine wpAny_take (i := 3) (v := .iface 57 (.pointer (some ⟨W1.heap.size, 0, none⟩))) rfl (by kernel_rfl) (by kernel_rfl) (by kernel_rfl) (fun _ _ _ h => h) (.inl ⟨by kernel_rfl, fun _ => by go_simp⟩) ?_
                      refine wpAny_all (rs := [5]) (by kernel_rfl) (by simp) (List.forall_mem_cons.2 ⟨?_, List.forall_mem_nil _⟩)
                      refine op_skip rfl (by kernel_rfl) (by go_simp; rfl) ?_
                      refine wpAny_all (rs := [6]) (by kernel_rfl) (by simp) (List.forall_mem_cons.2 ⟨?_, List.forall_mem_nil _⟩)
                      refine op_skip rfl (by kernel_rfl) (by go_simp; rfl) ?_
                      exact any_end (by kernel_rfl) ⟨by kernel_rfl, rfl⟩
                    · refine op_skip rfl (by kernel_rfl) (by go_simp; rfl) ?_
                      refine wpAny_all (rs := [2]) (by kernel_rfl) (by simp) (List.forall_mem_cons.2 ⟨?_, List.forall_mem_nil _⟩)
                      refine op_value (v := .pointer (some ⟨W1.heap.size, 0, none⟩)) rfl (by kernel_rfl) (by go_simp; rfl) ?_
                      refine wpAny_take (i := 3) (v := .iface 57 (.pointer (some ⟨W1.heap.size, 0, none⟩))) rfl (by kernel_rfl) (by kernel_rfl) (by kernel_rfl) (fun _ _ _ h => h) (.inl ⟨by kernel_rfl, fun _ => by go_simp⟩) ?_
                      refine wpAny_all (rs := [6]) (by kernel_rfl) (by simp) (List.forall_mem_cons.2 ⟨?_, List.forall_mem_nil _⟩)
                      refine op_skip rfl (by kernel_rfl) (by go_simp; rfl) ?_
                      exact any_end (by kernel_rfl) ⟨by kernel_rfl, rfl⟩
                  · refine op_skip rfl (by kernel_rfl) (by go_simp; rfl) ?_
                    refine wpAny_all (rs := [0]) (by kernel_rfl) (by simp) (List.forall_mem_cons.2 ⟨?_, List.forall_mem_nil _⟩)
                    refine op_read (v := .int .i64 V) rfl (by kernel_rfl) (by go_simp) ?_
                    refine wpAny_take (i := 1) (v := .agg #[.int .i64 V]) rfl (by kernel_rfl) (by kernel_rfl) (by kernel_rfl) (fun _ _ _ h => h) (.inl ⟨by kernel_rfl, fun _ => by go_simp⟩) ?_
                    refine wpAny_all (rs := [2]) (by kernel_rfl) (by simp) (List.forall_mem_cons.2 ⟨?_, List.forall_mem_nil _⟩)
                    refine op_value (v := .pointer (some ⟨W1.heap.size, 0, none⟩)) rfl (by kernel_rfl) (by go_simp; rfl) ?_
                    refine wpAny_take (i := 3) (v := .iface 57 (.pointer (some ⟨W1.heap.size, 0, none⟩))) rfl (by kernel_rfl) (by kernel_rfl) (by kernel_rfl) (fun _ _ _ h => h) (.inl ⟨by kernel_rfl, fun _ => by go_simp⟩) ?_
                    refine wpAny_all (rs := [6]) (by kernel_rfl) (by simp) (List.forall_mem_cons.2 ⟨?_, List.forall_mem_nil _⟩)
                    refine op_skip rfl (by kernel_rfl) (by go_simp; rfl) ?_
                    exact any_end (by kernel_rfl) ⟨by kernel_rfl, rfl⟩
              case c17u =>
                rintro _ _ ⟨rfl, rfl⟩
                gi_wp2
                exact ⟨HK3.out.trans (((((KeepsOthers.setCell _ _ _).trans (KeepsOthers.setCell _ _ _)).trans (KeepsOthers.setCell _ _ _)).trans (KeepsOthers.alloc _ _)).trans (KeepsOthers.drew _)),
                  ⟨⟨W1.heap.size, 0, none⟩, rfl, hn.out,
                    cel_alloc (cel_other (cel_other (cel_set J.out.1 _) _ (by omega)) _ (by omega)) _,
                    cel_alloc (cel_other (cel_set (cel_other J.out.2.1 _ (by omega)) _) _ (by omega)) _,
                    cel_alloc (cel_set (cel_other (cel_other J.out.2.2.1 _ (by omega)) _ (by omega)) _) _⟩,
                  (kept_alloc (kept_set (kept_set (kept_set HB3.out (p := ⟨w.heap.size, 0, none⟩) (Nat.le_refl _) _) (p := ⟨w.heap.size + 1, 0, none⟩) (by simp) _) (p := ⟨w.heap.size + 1 + 1, 0, none⟩) (by simp; omega) _) _).drew⟩
      case stop =>
        rintro D cc pre W hD ⟨hpl, hpo⟩ ⟨⟨p, rfl, hacc, q0, q1, q2⟩, hB⟩ hK
        have hrn : r = none := by
          rw [← HR.out, Hg.out, if_pos rfl]
          exact accK_none zs (k := pre.length) (by rw [← accP_order zs pre.length pre rfl hpo]; exact hacc) m hpl
        have RN := hide hrn
        clear hrn hacc
        gi_wp2
        refine ⟨by simp, .inl ⟨_, _, rfl, run_takeDeferred hK, ?_⟩⟩
        have z0 := cell_kept (cel_cell q0) (grownBy_putObj' _ D (.deferred none)) (fun r e => by cases e; exact ⟨_, hK, rfl⟩)
        have z1 := cell_kept (cel_cell q1) (grownBy_putObj' _ D (.deferred none)) (fun r e => by cases e; exact ⟨_, hK, rfl⟩)
        have z2 := cell_kept (cel_cell q2) (grownBy_putObj' _ D (.deferred none)) (fun r e => by cases e; exact ⟨_, hK, rfl⟩)
        refine ⟨.tuple #[.int .i64 0, .int .i64 0, .iface 57 (.pointer (some p))], by simp [results, Tryd.f37, go_sem, z0, z1, z2], ?_⟩
        refine ⟨0, 0, _, rfl, (fun p hp => by rw [RN.out] at hp; cases hp), fun _ => ⟨rfl, rfl, badErr_m _ _⟩, hB.trans (belowK_b (w := w) (Nat.le_refl _) W D _ _ (by omega) hK rfl rfl)⟩
      case done =>
        rintro D xs W hD ⟨hxl, hxo⟩ ⟨⟨t, bb, hacc, ht, hbb, q3, q4, q0, q1, q2⟩, hB⟩ hK
        have hrs : r = some (t, bb) := by
          rw [← HR.out, Hg.out, if_pos rfl, ← accP_order zs m xs hxl hxo]
          exact hacc
        have RS := hide hrs
        clear hrs hacc
        have c3 := cel_cell q3
        have c4 := cel_cell q4
        have d0 := cel_cell q0
        have d1 := cel_cell q1
        have d2 := cel_cell q2
        have f0 := cel_free q0
        have f1 := cel_free q1
        have f2 := cel_free q2
        have HQ := hide (And.intro q0 (And.intro q1 q2))
        have HB := hide hB
        have HKD := hide hK
        clear q0 q1 q2 q3 q4 hB hK
        gi_wp2
        gi_region
        all_goals gi_wp2
        have hK' : ((((W.setCell ⟨w.heap.size, 0, none⟩ (.int .i64 t)).setCell ⟨w.heap.size + 1, 0, none⟩ (.int .i64 bb)).setCell ⟨w.heap.size + 1 + 1, 0, none⟩ .nilIface).drew).heap[D]? = some (.deferred (some [])) := ((((KeepsOthers.setCell W ⟨w.heap.size, 0, none⟩ (.int .i64 t)).trans (KeepsOthers.setCell _ ⟨w.heap.size + 1, 0, none⟩ (.int .i64 bb))).trans (KeepsOthers.setCell _ ⟨w.heap.size + 1 + 1, 0, none⟩ .nilIface)).trans (KeepsOthers.drew _)).same D _ HKD.out rfl
        have y0 : Cel ((((W.setCell ⟨w.heap.size, 0, none⟩ (.int .i64 t)).setCell ⟨w.heap.size + 1, 0, none⟩ (.int .i64 bb)).setCell ⟨w.heap.size + 1 + 1, 0, none⟩ .nilIface).drew) w.heap.size 3 (.int .i64 t) := cel_other (cel_other (cel_set HQ.out.1 _) _ (by omega)) _ (by omega)
        have y1 : Cel ((((W.setCell ⟨w.heap.size, 0, none⟩ (.int .i64 t)).setCell ⟨w.heap.size + 1, 0, none⟩ (.int .i64 bb)).setCell ⟨w.heap.size + 1 + 1, 0, none⟩ .nilIface).drew) (w.heap.size + 1) 3 (.int .i64 bb) := cel_other (cel_set (cel_other HQ.out.2.1 _ (by omega)) _) _ (by omega)
        have y2 : Cel ((((W.setCell ⟨w.heap.size, 0, none⟩ (.int .i64 t)).setCell ⟨w.heap.size + 1, 0, none⟩ (.int .i64 bb)).setCell ⟨w.heap.size + 1 + 1, 0, none⟩ .nilIface).drew) (w.heap.size + 1 + 1) 43 .nilIface := cel_set (cel_other (cel_other HQ.out.2.2 _ (by omega)) _ (by omega)) _
        have hBf : Below w.heap.size w ((((W.setCell ⟨w.heap.size, 0, none⟩ (.int .i64 t)).setCell ⟨w.heap.size + 1, 0, none⟩ (.int .i64 bb)).setCell ⟨w.heap.size + 1 + 1, 0, none⟩ .nilIface).drew) := (kept_set (kept_set (kept_set HB.out (p := ⟨w.heap.size, 0, none⟩) (Nat.le_refl _) _) (p := ⟨w.heap.size + 1, 0, none⟩) (by simp) _) (p := ⟨w.heap.size + 1 + 1, 0, none⟩) (by simp; omega) _).drew
        generalize (((W.setCell ⟨w.heap.size, 0, none⟩ (.int .i64 t)).setCell ⟨w.heap.size + 1, 0, none⟩ (.int .i64 bb)).setCell ⟨w.heap.size + 1 + 1, 0, none⟩ .nilIface).drew = Wf at *
        refine ⟨by simp, .inl ⟨_, _, rfl, run_takeDeferred hK', ?_⟩⟩
        have z0 := cell_kept (cel_cell y0) (grownBy_putObj' _ D (.deferred none)) (fun r e => by cases e; exact ⟨_, hK', rfl⟩)
        have z1 := cell_kept (cel_cell y1) (grownBy_putObj' _ D (.deferred none)) (fun r e => by cases e; exact ⟨_, hK', rfl⟩)
        have z2 := cell_kept (cel_cell y2) (grownBy_putObj' _ D (.deferred none)) (fun r e => by cases e; exact ⟨_, hK', rfl⟩)
        refine ⟨.tuple #[.int .i64 t, .int .i64 bb, .nilIface], by simp [results, Tryd.f37, go_sem, z0, z1, z2], ?_⟩
        refine ⟨t, bb, _, rfl, (fun p hp => by rw [RS.out] at hp; cases hp; exact ⟨rfl, rfl, rfl⟩), (fun hn => by rw [RS.out] at hn; cases hn), hBf.trans (belowK_b (w := w) (Nat.le_refl _) Wf D _ _ (by omega) hK' rfl rfl)⟩

end Go.Proofs.YtiiocjkhjogfkaaDoor
