/-
  Grid points: what is drawn, both sides.
-/
import Derived.Test.YtbaojldhbemcnaaGr
namespace Go.Proofs.Ytbaojldhbemcnaa
open Go.RowKit

/-- A drawn wide complex number. -/
def WideOk (a b : Nat) : Prop := ((Ieee.double.read a).isNaN = true ∧ b = 4607182418800017408) ∨ ∃ y1 y2, cConvBits .f64 a b .f32 = some (y1, y2) ∧ DZ y1 ∧ DZ y2

theorem conv_two {a b y1 y2 : Nat} (h1 : floatToFloatBits .f64 a .f32 = some y1) (h2 : floatToFloatBits .f64 b .f32 = some y2) : cConvBits .f64 a b .f32 = some (y1, y2) := by simp [cConvBits, h1, h2]

set_option maxRecDepth 100000 in
set_option maxHeartbeats 2000000 in
theorem l91Wide_ok (R N : Nat) (w : World) (hR : Rd w R N) (hN : N ≤ 900000) :
    Calls Try.prog 37 #[.pointer (some ⟨R, 0, none⟩)] w fun e w' => ∃ a b, e = .returned (.complex .f64 a b) ∧ WideOk a b ∧ Rd w' R (N + 3) ∧ w.grownBy w' (some R) := by
  go_enter Try.func37, Try.ntmps37
  go_wp2_with fail
  refine (pick_ok R N 10 _ hR (by omega) (by decide)).mono ?_
  rintro e w1 ⟨k, rfl, hk, hR1, hg1⟩
  have hk10 : k < 10 := by omega
  clear hk
  by_cases c0 : k = 0
  · subst c0
    obtain ⟨x, hx, hn⟩ := nan_quo w1
    go_wp2_with fail
    go_ret
    exact ⟨_, _, rfl, .inl ⟨hn, rfl⟩, rd_more (rd_kept hR1 (kept_drew w1)) (by omega), grown_trans' hg1 (grown_of_kept (kept_drew w1) _)⟩
  by_cases c1 : k = 1
  · subst c1
    have hx : ∀ W, (binOp .quo 40 (.float .f64 4607182418800017408) (.float .f64 0)).run Try.prog W = .ok (.float .f64 9218868437227405312) W := fun W => run_float_arith W .quo _ .f64 _ _ _ (by decide)
    go_wp2_with fail
    go_ret
    exact ⟨_, _, rfl, .inr ⟨intS 21, 2139095040, conv_two (by decide +kernel) (by decide +kernel), .inr (int_mem _ (by decide)), .inl (by decide +kernel)⟩, rd_more hR1 (by omega), hg1⟩
  by_cases c2 : k = 2
  · subst c2
    have hx : ∀ W, (Op.unary .neg (.float .f64 0)).run Try.prog W = .ok (.float .f64 9223372036854775808) W := fun W => rfl
    have hx2 : ∀ W, (binOp .mul 40 (.float .f64 9223372036854775808) (.float .f64 4607182418800017408)).run Try.prog W = .ok (.float .f64 9223372036854775808) W := fun W => run_float_arith W .mul _ .f64 _ _ _ (by decide)
    go_wp2_with fail
    go_ret
    exact ⟨_, _, rfl, .inr ⟨2147483648, intS 22, conv_two (by decide +kernel) (by decide +kernel), .inr odd_mem.1.2, .inr (int_mem _ (by decide))⟩, rd_more hR1 (by omega), hg1⟩
  by_cases c3 : k = 3
  · subst c3
    go_wp2_with fail
    go_ret
    exact ⟨_, _, rfl, .inr ⟨1056964608, intS 21, conv_two (by decide +kernel) (by decide +kernel), .inr odd_mem.1.1, .inr (int_mem _ (by decide))⟩, rd_more hR1 (by omega), hg1⟩
  have d0 : ((k : Int) == 0) = false := beq_eq_false_iff_ne.2 (by omega)
  have d1 : ((k : Int) == 1) = false := beq_eq_false_iff_ne.2 (by omega)
  have d2 : ((k : Int) == 2) = false := beq_eq_false_iff_ne.2 (by omega)
  have d3 : ((k : Int) == 3) = false := beq_eq_false_iff_ne.2 (by omega)
  clear c0 c1 c2 c3
  go_wp2_with fail
  refine (pick_ok R _ 41 _ hR1 (by omega) (by decide)).mono ?_
  rintro e w2 ⟨a, rfl, ha, hR2, hg2⟩
  have ha41 : a < 41 := by omega
  clear ha
  go_wp2_with fail
  refine (pick_ok R _ 41 _ hR2 (by omega) (by decide)).mono ?_
  rintro e w3 ⟨b, rfl, hb, hR3, hg3⟩
  have hb41 : b < 41 := by omega
  clear hb
  go_wp2_with fail
  go_ret
  exact ⟨_, _, rfl, .inr ⟨intS a, intS b, conv_two (int_conv a ha41) (int_conv b hb41), .inr (int_mem _ ha41), .inr (int_mem _ hb41)⟩, rd_more hR3 (by omega), grown_trans' (grown_trans' hg1 hg2) hg3⟩

/-- What is drawn for a grid point. -/
def DrGr (w : World) (e : Ending) (w' : World) : Prop :=
  ∃ (z : Nat × Nat) (G : Nat), e = .returned (.tuple #[.complex .f32 z.1 z.2, .int .i64 G]) ∧ DZ z.1 ∧ DZ z.2 ∧ G ≤ 9 ∧ Below w.heap.size w w'

set_option maxRecDepth 100000 in
set_option maxHeartbeats 2000000 in
theorem drawGrid_ok (A : Option Addr) (c : Nat) (bs : List Int) (w : World) (hc : CodeIn w A c bs) : Calls Try.prog 16 #[.slice A bs.length c] w (DrGr w) := by
  have H := hide hc
  clear hc
  go_enter Try.func16, Try.ntmps16
  go_wp2_with fail
  refine (l6Open_ok A c bs _ H.out.1 H.out.2.1 H.out.2.2.1 H.out.2.2.2).mono ?_
  rintro e w1 ⟨R, rfl, hR, hR1, hb1⟩
  go_wp2_with fail
  refine (l91Wide_ok R 0 _ hR1 (by decide)).mono ?_
  rintro e w2 ⟨a, b, rfl, hw, hR2, hg2⟩
  obtain ⟨y1, y2, w2', hcv, hz1, hz2, hR2', hg2'⟩ : ∃ y1 y2 w2', (convert 59 35 (.complex .f64 a b)).run Try.prog w2 = .ok (.complex .f32 y1 y2) w2' ∧ DZ y1 ∧ DZ y2 ∧ Rd w2' R 3 ∧ w1.grownBy w2' (some R) := by
    rcases hw with ⟨hn, rfl⟩ | ⟨y1, y2, hcv, h1, h2⟩
    · obtain ⟨y, hy, hyn⟩ := nan_conv a hn w2
      exact ⟨y, 1065353216, w2.drew, hy, .inl (nan_part y hyn), .inr (by rw [show 1065353216 = intS 21 from by decide +kernel]; exact int_mem _ (by decide)), rd_kept hR2 (kept_drew w2), grown_trans' hg2 (grown_of_kept (kept_drew w2) _)⟩
    · exact ⟨y1, y2, w2, run_convert_complex _ _ _ .f64 .f32 _ _ _ _ (by rw [Try.underlying59]; rfl) Try.underlying35 hcv, h1, h2, hR2, hg2⟩
  have Hz := hide (And.intro hz1 hz2)
  clear hw hR2 hg2 hz1 hz2
  go_wp2_with fail
  clear hcv
  refine (pick_ok R _ 2 _ hR2' (by decide) (by decide)).mono ?_
  rintro e w3 ⟨p, rfl, hp, hR3, hg3⟩
  have hg03 := grown_trans' hg2' hg3
  clear hp hg2' hg3 hR2'
  by_cases hp0 : p = 0
  · subst hp0
    go_wp2_with fail
    refine (pick_ok R _ 200 _ hR3 (by decide) (by decide)).mono ?_
    rintro e w4 ⟨q, rfl, hq, hR4, hg4⟩
    have hq200 : q < 200 := by omega
    have hdv : ∀ W, (binOp .quo 41 (.float .f32 (floatOfInt .f32 ((q : Int) - 100))) (.float .f32 1098907648)).run Try.prog W = .ok (.float .f32 (tenS q)) W := fun W => run_float_arith W .quo _ .f32 _ _ _ (ten_div q hq200)
    have Hq := hide (ten_mem q hq200)
    have hg04 := grown_trans' hg03 hg4
    clear hq hg4 hg03 hR3
    generalize tenS q = y at *
    go_wp2_with fail
    refine (pick_ok R _ 9 _ hR4 (by decide) (by decide)).mono ?_
    rintro e w5 ⟨g, rfl, hg, hR5, hg5⟩
    have hg9 : g < 9 := by omega
    clear hg
    go_wp2_with fail
    refine (pick_ok R _ 20 _ hR5 (by decide) (by decide)).mono ?_
    rintro e w6 ⟨j, rfl, hj, hR6, hg6⟩
    have hj20 : j < 20 := by omega
    clear hj
    have hb06 := kept_of_new hb1 (grown_trans' (grown_trans' hg04 hg5) hg6) hR
    obtain ⟨t, ht, ht2⟩ : ∃ t : Nat, ((j : Int)).tdiv 19 = t ∧ t ≤ 1 := ⟨j / 19, by rw [Int.tdiv_eq_ediv_of_nonneg (by omega)]; omega, by omega⟩
    go_wp2_with fail
    go_ret2
    exact ⟨(y, 1036831949), g + t, by simp, .inr Hq.out, .inr odd_mem.2, by omega, hb06⟩
  · have d0 : ((p : Int) == 0) = false := beq_eq_false_iff_ne.2 (by omega)
    clear hp0
    go_wp2_with fail
    refine (pick_ok R _ 9 _ hR3 (by decide) (by decide)).mono ?_
    rintro e w5 ⟨g, rfl, hg, hR5, hg5⟩
    have hg9 : g < 9 := by omega
    clear hg
    go_wp2_with fail
    refine (pick_ok R _ 20 _ hR5 (by decide) (by decide)).mono ?_
    rintro e w6 ⟨j, rfl, hj, hR6, hg6⟩
    have hj20 : j < 20 := by omega
    clear hj
    have hb06 := kept_of_new hb1 (grown_trans' (grown_trans' hg03 hg5) hg6) hR
    obtain ⟨t, ht, ht2⟩ : ∃ t : Nat, ((j : Int)).tdiv 19 = t ∧ t ≤ 1 := ⟨j / 19, by rw [Int.tdiv_eq_ediv_of_nonneg (by omega)]; omega, by omega⟩
    go_wp2_with fail
    go_ret2
    exact ⟨(y1, y2), g + t, by simp, Hz.out.1, Hz.out.2, by omega, hb06⟩

/-- The grid point, if there is one. -/
def grV (z : Nat × Nat) (G : Nat) : Value := if ptB z = true ∧ G ≤ 8 then .tuple #[.agg #[.int .i64 (nU z.1 G), .int .i64 (nU z.2 G)], .bool true] else .tuple #[.agg #[.int .i64 0, .int .i64 0], .bool false]

theorem grid_ok (z : Nat × Nat) (G : Nat) (h1 : DZ z.1) (h2 : DZ z.2) (hp : ptB z = true) (hG : G ≤ 8) : LawOk z.1 G ∧ LawOk z.2 G := by
  unfold ptB at hp
  simp only [Bool.and_eq_true] at hp
  constructor
  · rcases h1 with h | h
    · rw [hp.1] at h; cases h
    · exact grid_law h hG
  · rcases h2 with h | h
    · rw [hp.2] at h; cases h
    · exact grid_law h hG

set_option maxHeartbeats 1000000 in
theorem implGP_ok (z : Nat × Nat) (G : Nat) (w : World) (h1 : DZ z.1) (h2 : DZ z.2) (hG : G ≤ 9) : Calls Try.prog 17 #[.complex .f32 z.1 z.2, .int .i64 G] w fun e w' => e = .returned (grV z G) ∧ Below w.heap.size w w' := by
  have hpt := fun w => pointValid_ok z w
  unfold grV
  cases hp : ptB z with
  | false =>
    rw [hp] at hpt
    rw [if_neg (by simp)]
    have Hpt := hide hpt
    clear hpt hp h1 h2
    go_enter Try.func17, Try.ntmps17
    go_wp2_with fail
    refine (Hpt.out _).mono ?_
    rintro e w1 ⟨rfl, rfl⟩
    go_wp2_with fail
    refine bodyPost_ret (v := .tuple #[.agg #[.int .i64 0, .int .i64 0], .bool false]) (by simp [results, Try.results17, go_sem]) rfl ⟨rfl, kept_new _ _⟩
  | true =>
    rw [hp] at hpt
    have Hpt := hide hpt
    by_cases h8 : G ≤ 8
    · rw [if_pos ⟨rfl, h8⟩]
      obtain ⟨l1, l2⟩ := grid_ok z G h1 h2 hp h8
      have Hg := hide (fun w => implGrid_ok z G (nU z.1 G, nU z.2 G) w h8 ⟨l1.unit, l2.unit⟩)
      have Hv := hide (fun w => gridValid_t G w (by omega))
      clear hpt hp h1 h2 l1 l2
      generalize nU z.1 G = n1 at *
      generalize nU z.2 G = n2 at *
      go_enter Try.func17, Try.ntmps17
      go_wp2_with fail
      refine (Hpt.out _).mono ?_
      rintro e w1 ⟨rfl, rfl⟩
      go_wp2_with fail
      refine (Hv.out _).mono ?_
      rintro e w1 ⟨rfl, rfl⟩
      go_wp2_with fail
      have hk := kept_new w (.cells #[.int .i64 0, .int .i64 0] 32)
      have c0 : (w.alloc (.cells #[.int .i64 0, .int .i64 0] 32)).cell? ⟨w.heap.size, 0, none⟩ = some (.int .i64 0) := by go_simp
      have c1 : (w.alloc (.cells #[.int .i64 0, .int .i64 0] 32)).cell? ⟨w.heap.size, 1, none⟩ = some (.int .i64 0) := by go_simp
      have f0 : (w.alloc (.cells #[.int .i64 0, .int .i64 0] 32)).frozen? ⟨w.heap.size, 0, none⟩ = false := by go_simp
      have f1 : (w.alloc (.cells #[.int .i64 0, .int .i64 0] 32)).frozen? ⟨w.heap.size, 1, none⟩ = false := by go_simp
      have hsz : w.heap.size < (w.alloc (.cells #[.int .i64 0, .int .i64 0] 32)).heap.size := by simp
      generalize w.alloc (.cells #[.int .i64 0, .int .i64 0] 32) = wa at *
      refine (Hg.out _).mono ?_
      rintro e w2 ⟨rfl, hb2⟩
      replace c0 := kept_cell hb2 c0
      replace c1 := kept_cell hb2 c1
      replace f0 := (hb2.frozen (p := ⟨w.heap.size, 0, none⟩) hsz).trans f0
      replace f1 := (hb2.frozen (p := ⟨w.heap.size, 1, none⟩) hsz).trans f1
      have hb02 := kept_trans hk hb2
      clear hb2 hk
      go_wp2_with fail
      refine bodyPost_ret (v := .tuple #[.agg #[.int .i64 n1, .int .i64 n2], .bool true]) (by simp [results, Try.results17, go_sem, c0, c1]) rfl ⟨rfl, ?_⟩
      exact kept_set (kept_set hb02 (Nat.le_refl _) _) (Nat.le_refl _) _
    · rw [if_neg (fun h => h8 h.2)]
      have Hv := hide (fun w => gridValid_f G w (by omega))
      clear hpt hp h1 h2
      go_enter Try.func17, Try.ntmps17
      go_wp2_with fail
      refine (Hpt.out _).mono ?_
      rintro e w1 ⟨rfl, rfl⟩
      go_wp2_with fail
      refine (Hv.out _).mono ?_
      rintro e w1 ⟨rfl, rfl⟩
      go_wp2_with fail
      refine bodyPost_ret (v := .tuple #[.agg #[.int .i64 0, .int .i64 0], .bool false]) (by simp [results, Try.results17, go_sem]) rfl ⟨rfl, kept_new _ _⟩

set_option maxHeartbeats 1000000 in
theorem specGP_ok (z : Nat × Nat) (G : Nat) (w : World) (h1 : DZ z.1) (h2 : DZ z.2) (hG : G ≤ 9) : Calls Try.prog 18 #[.complex .f32 z.1 z.2, .int .i64 G] w fun e w' => e = .returned (grV z G) ∧ Below w.heap.size w w' := by
  have hx := fun w => l10Part_ok z.1 w
  have hy := fun w => l10Part_ok z.2 w
  have hgo := fun hp h8 => grid_ok z G h1 h2 hp h8
  unfold grV ptB at *
  cases hp1 : partB z.1 with
  | false =>
    rw [hp1] at hx
    rw [if_neg (by simp)]
    have Hx := hide hx
    clear hx hy hgo h1 h2 hp1
    go_enter Try.func18, Try.ntmps18
    go_wp2_with fail
    refine (Hx.out _).mono ?_
    rintro e w1 ⟨rfl, rfl⟩
    go_wp2_with fail
    refine bodyPost_ret (v := .tuple #[.agg #[.int .i64 0, .int .i64 0], .bool false]) (by simp [results, Try.results18, go_sem]) rfl ⟨rfl, kept_new _ _⟩
  | true =>
    rw [hp1] at hx
    have Hx := hide hx
    clear hx
    cases hp2 : partB z.2 with
    | false =>
      rw [hp2] at hy
      rw [if_neg (by simp)]
      have Hy := hide hy
      clear hy hgo h1 h2 hp1 hp2
      go_enter Try.func18, Try.ntmps18
      go_wp2_with fail
      refine (Hx.out _).mono ?_
      rintro e w1 ⟨rfl, rfl⟩
      go_wp2_with fail
      refine (Hy.out _).mono ?_
      rintro e w1 ⟨rfl, rfl⟩
      go_wp2_with fail
      refine bodyPost_ret (v := .tuple #[.agg #[.int .i64 0, .int .i64 0], .bool false]) (by simp [results, Try.results18, go_sem]) rfl ⟨rfl, kept_new _ _⟩
    | true =>
      rw [hp2] at hy
      have Hy := hide hy
      clear hy
      by_cases h8 : G ≤ 8
      · rw [if_pos ⟨rfl, h8⟩]
        obtain ⟨l1, l2⟩ := hgo (by rw [hp1, hp2]; rfl) h8
        have Hg := hide (fun w => specGrid_ok z G (nU z.1 G, nU z.2 G) w h8 ⟨l1.unit, l2.unit⟩)
        have Hv := hide (fun w => l6In_t (G : Int) 0 8 w (by omega) (by omega))
        clear hgo h1 h2 l1 l2 hp1 hp2
        generalize nU z.1 G = n1 at *
        generalize nU z.2 G = n2 at *
        go_enter Try.func18, Try.ntmps18
        go_wp2_with fail
        refine (Hx.out _).mono ?_
        rintro e w1 ⟨rfl, rfl⟩
        go_wp2_with fail
        refine (Hy.out _).mono ?_
        rintro e w1 ⟨rfl, rfl⟩
        go_wp2_with fail
        refine (Hv.out _).mono ?_
        rintro e w1 ⟨rfl, rfl⟩
        go_wp2_with fail
        have hk := kept_new w (.cells #[.int .i64 0, .int .i64 0] 32)
        have c0 : (w.alloc (.cells #[.int .i64 0, .int .i64 0] 32)).cell? ⟨w.heap.size, 0, none⟩ = some (.int .i64 0) := by go_simp
        have c1 : (w.alloc (.cells #[.int .i64 0, .int .i64 0] 32)).cell? ⟨w.heap.size, 1, none⟩ = some (.int .i64 0) := by go_simp
        have f0 : (w.alloc (.cells #[.int .i64 0, .int .i64 0] 32)).frozen? ⟨w.heap.size, 0, none⟩ = false := by go_simp
        have f1 : (w.alloc (.cells #[.int .i64 0, .int .i64 0] 32)).frozen? ⟨w.heap.size, 1, none⟩ = false := by go_simp
        have hsz : w.heap.size < (w.alloc (.cells #[.int .i64 0, .int .i64 0] 32)).heap.size := by simp
        generalize w.alloc (.cells #[.int .i64 0, .int .i64 0] 32) = wa at *
        refine (Hg.out _).mono ?_
        rintro e w2 ⟨rfl, hb2⟩
        replace c0 := kept_cell hb2 c0
        replace c1 := kept_cell hb2 c1
        replace f0 := (hb2.frozen (p := ⟨w.heap.size, 0, none⟩) hsz).trans f0
        replace f1 := (hb2.frozen (p := ⟨w.heap.size, 1, none⟩) hsz).trans f1
        have hb02 := kept_trans hk hb2
        clear hb2 hk
        go_wp2_with fail
        refine bodyPost_ret (v := .tuple #[.agg #[.int .i64 n1, .int .i64 n2], .bool true]) (by simp [results, Try.results18, go_sem, c0, c1]) rfl ⟨rfl, ?_⟩
        exact kept_set (kept_set hb02 (Nat.le_refl _) _) (Nat.le_refl _) _
      · rw [if_neg (fun h => h8 h.2)]
        have Hv := hide (fun w => l6In_f (G : Int) 0 8 w (by omega))
        clear hgo h1 h2 hp1 hp2
        go_enter Try.func18, Try.ntmps18
        go_wp2_with fail
        refine (Hx.out _).mono ?_
        rintro e w1 ⟨rfl, rfl⟩
        go_wp2_with fail
        refine (Hy.out _).mono ?_
        rintro e w1 ⟨rfl, rfl⟩
        go_wp2_with fail
        refine (Hv.out _).mono ?_
        rintro e w1 ⟨rfl, rfl⟩
        go_wp2_with fail
        refine bodyPost_ret (v := .tuple #[.agg #[.int .i64 0, .int .i64 0], .bool false]) (by simp [results, Try.results18, go_sem]) rfl ⟨rfl, kept_new _ _⟩

set_option maxHeartbeats 1000000 in
theorem within_ok (d p q : Nat) (w : World) (h1 : Ieee.double.sub d 0 = some p) (o1 : Ieee.double.order p 4604480259023595110 = some .lt) (h2 : Ieee.double.sub 0 d = some q) (o2 : Ieee.double.order q 4604480259023595110 = some .lt) :
    Calls Try.prog 19 #[.float .f64 d, .float .f64 0, .float .f64 4604480259023595110] w fun e w' => e = .returned (.bool true) ∧ w = w' := by
  have d1 : ∀ W, (binOp .sub 40 (.float .f64 d) (.float .f64 0)).run Try.prog W = .ok (.float .f64 p) W := fun W => run_float_arith W .sub _ .f64 _ _ _ h1
  have d2 : ∀ W, (binOp .sub 40 (.float .f64 0) (.float .f64 d)).run Try.prog W = .ok (.float .f64 q) W := fun W => run_float_arith W .sub _ .f64 _ _ _ h2
  have e1 : (FloatKind.f64.format.order p 4604480259023595110 == some Ordering.lt) = true := by rw [show FloatKind.f64.format = Ieee.double from rfl, o1]; rfl
  have e2 : (FloatKind.f64.format.order q 4604480259023595110 == some Ordering.lt) = true := by rw [show FloatKind.f64.format = Ieee.double from rfl, o2]; rfl
  clear h1 h2 o1 o2
  go_enter Try.func19, Try.ntmps19
  go_wp2_with fail
  go_ret
  exact ⟨by simp [*], rfl⟩

end Go.Proofs.Ytbaojldhbemcnaa
