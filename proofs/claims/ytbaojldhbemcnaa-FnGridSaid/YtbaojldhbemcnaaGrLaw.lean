/-
  Grid points are nearest: the law FnGrid answers true at every code. No condition.
-/
import Derived.Test.YtbaojldhbemcnaaGd
namespace Go.Proofs.Ytbaojldhbemcnaa
open Go.ChangeShapes Go.WideShapes Go.ChangeAt Go.RowKit

/-- What the walk is told of one part. -/
structure PartFacts (y X M D : Nat) (n i : Int) (G : Nat) (b : Bool) : Prop where
  conv : ∀ W, (convert 41 40 (.float .f32 y)).run Try.prog W = .ok (.float .f64 X) W
  mul : ∀ W, (binOp .mul 40 (.float .f64 X) (.float .f64 (floatOfInt .f64 ((2 : Int) ^ G)))).run Try.prog W = .ok (.float .f64 M) W
  sub : ∀ W, (binOp .sub 40 (.float .f64 M) (.float .f64 (floatOfInt .f64 n))).run Try.prog W = .ok (.float .f64 D) W
  int : ∀ W, (convert 41 3 (.float .f32 y)).run Try.prog W = .ok (.int .i64 i) W
  zero : (FloatKind.f64.format.order D 0 == some Ordering.eq) = b
  alt : b = false → (FloatKind.f64.format.order X (floatOfInt .f64 i) != some Ordering.eq) = true
  within : ∀ w, Calls Try.prog 19 #[.float .f64 D, .float .f64 0, .float .f64 4604480259023595110] w fun e w' => e = .returned (.bool true) ∧ w = w'

theorem part_facts {y G : Nat} (h : LawOk y G) : ∃ X M D i b, PartFacts y X M D (nU y G) i G b := by
  refine ⟨lX y, lM y G, lD y G, lI y, FloatKind.f64.format.order (lD y G) 0 == some Ordering.eq, fun W => run_convert_float_float W _ _ .f32 .f64 _ _ (by rw [Try.underlying41]; rfl) Try.underlying40 h.conv, fun W => run_float_arith W .mul _ .f64 _ _ _ h.mul, fun W => run_float_arith W .sub _ .f64 _ _ _ h.sub,
    fun W => run_convert_float_int W _ _ .f32 .i64 _ _ (by rw [Try.underlying41]; rfl) Try.underlying3 h.int, rfl, fun hb => ?_, fun w => within_ok _ _ _ w h.w1 h.o1 h.w2 h.o2⟩
  rcases h.alt with h1 | h1
  · rw [show FloatKind.f64.format = Ieee.double from rfl, h1] at hb
    cases hb
  · exact bne_iff_ne.2 h1

set_option maxRecDepth 100000 in
set_option maxHeartbeats 4000000 in
theorem lawGrid (A : Option Addr) (c : Nat) (bs : List Int) (w : World) (hcode : CodeIn w A c bs) :
    Calls Try.prog 5 #[.slice A bs.length c] w fun e w' => e = .returned (.bool true) ∧ Below w.heap.size w w' := by
  have Hcode := hide hcode
  have hm := hcode.1.2.1
  clear hcode
  by_cases hbig : 1048576 < bs.length
  · go_enter Try.func5, Try.ntmps5
    go_wp2
    go_ret
    exact ⟨rfl, Below.refl _ _⟩
  · go_enter Try.func5, Try.ntmps5
    go_wp2_with fail
    refine (drawGrid_ok A c bs _ Hcode.out).mono ?_
    rintro e w1 ⟨z, G, rfl, hz1, hz2, hG, hb1⟩
    clear hm hbig Hcode
    have Hi := hide (fun w => implGP_ok z G w hz1 hz2 hG)
    have Hs := hide (fun w => specGP_ok z G w hz1 hz2 hG)
    have hcase : grV z G = .tuple #[.agg #[.int .i64 0, .int .i64 0], .bool false] ∨ (grV z G = .tuple #[.agg #[.int .i64 (nU z.1 G), .int .i64 (nU z.2 G)], .bool true] ∧ G ≤ 8 ∧ LawOk z.1 G ∧ LawOk z.2 G) := by
      unfold grV
      split
      · rename_i h
        exact .inr ⟨rfl, h.2, grid_ok z G hz1 hz2 h.1 h.2⟩
      · exact .inl rfl
    clear hz1 hz2 hG
    have heq : ∀ (x y : Int) W, (binOp .neq 32 (.agg #[.int .i64 x, .int .i64 y]) (.agg #[.int .i64 x, .int .i64 y])).run Try.prog W = .ok (.bool false) W := fun x y W => by go_simp
    have heq2 : ∀ (x y : Int) W, (binOp .eql 32 (.agg #[.int .i64 x, .int .i64 y]) (.agg #[.int .i64 x, .int .i64 y])).run Try.prog W = .ok (.bool true) W := fun x y W => by go_simp
    rcases hcase with hg | ⟨hg, hG8, hl1, hl2⟩
    · rw [hg] at Hi Hs
      clear hg
      obtain ⟨zx, zy⟩ := z
      dsimp only at Hi Hs ⊢
      go_wp2_with fail
      refine (Hi.out _).mono ?_
      rintro e w2 ⟨rfl, hb2⟩
      have n0 : (w2.alloc (.cells #[.int .i64 0, .int .i64 0] 32)).cell? ⟨w2.heap.size, 0, none⟩ = some (.int .i64 0) := by go_simp
      have n1 : (w2.alloc (.cells #[.int .i64 0, .int .i64 0] 32)).cell? ⟨w2.heap.size, 1, none⟩ = some (.int .i64 0) := by go_simp
      have hka := kept_alloc (kept_trans hb1 hb2) (.cells #[.int .i64 0, .int .i64 0] 32)
      clear hb1 hb2
      go_wp2_with fail
      refine (Hs.out _).mono ?_
      rintro e w3 ⟨rfl, hb3⟩
      replace n0 := kept_cell hb3 n0
      replace n1 := kept_cell hb3 n1
      have hne := World.block_lt_of_cell? w3 _ n0
      dsimp only at hne
      have hne' : ¬ w2.heap.size = w3.heap.size := by omega
      have hb03 := kept_trans hka hb3
      clear hka hb3
      replace n0 := kept_cell (kept_new w3 (.cells #[.int .i64 0, .int .i64 0] 32)) n0
      replace n1 := kept_cell (kept_new w3 (.cells #[.int .i64 0, .int .i64 0] 32)) n1
      have u0 : (w3.alloc (.cells #[.int .i64 0, .int .i64 0] 32)).cell? ⟨w3.heap.size, 0, none⟩ = some (.int .i64 0) := by go_simp
      have u1 : (w3.alloc (.cells #[.int .i64 0, .int .i64 0] 32)).cell? ⟨w3.heap.size, 1, none⟩ = some (.int .i64 0) := by go_simp
      have hkb := kept_alloc hb03 (.cells #[.int .i64 0, .int .i64 0] 32)
      clear hb03
      have heq := heq 0 0
      have heq2 := heq2 0 0
      go_wp2_with fail
      go_ret
      exact ⟨rfl, hkb⟩
    · rw [hg] at Hi Hs
      clear hg
      have hw2 := wrap_unit G hG8
      obtain ⟨X1, M1, D1, i1, b1, f1⟩ := part_facts hl1
      obtain ⟨X2, M2, D2, i2, b2, f2⟩ := part_facts hl2
      clear hl1 hl2
      generalize nU z.1 G = n at *
      generalize nU z.2 G = m at *
      obtain ⟨zx, zy⟩ := z
      obtain ⟨p1, p2, p3, p4, p5, p6, p7⟩ := f1
      obtain ⟨q1, q2, q3, q4, q5, q6, q7⟩ := f2
      have P7 := hide p7
      have Q7 := hide q7
      clear p7 q7
      dsimp only at Hi Hs p1 p4 q1 q4 ⊢
      have heq := heq n m
      go_wp2_with fail
      refine (Hi.out _).mono ?_
      rintro e w2 ⟨rfl, hb2⟩
      have n0 : (w2.alloc (.cells #[.int .i64 n, .int .i64 m] 32)).cell? ⟨w2.heap.size, 0, none⟩ = some (.int .i64 n) := by go_simp
      have n1 : (w2.alloc (.cells #[.int .i64 n, .int .i64 m] 32)).cell? ⟨w2.heap.size, 1, none⟩ = some (.int .i64 m) := by go_simp
      have hka := kept_alloc (kept_trans hb1 hb2) (.cells #[.int .i64 n, .int .i64 m] 32)
      clear hb1 hb2
      generalize hwa : w2.alloc (.cells #[.int .i64 n, .int .i64 m] 32) = wa at *
      go_wp2_with fail
      refine (Hs.out _).mono ?_
      rintro e w3 ⟨rfl, hb3⟩
      replace n0 := kept_cell hb3 n0
      replace n1 := kept_cell hb3 n1
      have hne := World.block_lt_of_cell? w3 _ n0
      dsimp only at hne
      have hne' : ¬ w2.heap.size = w3.heap.size := by omega
      have hb03 := kept_trans hka hb3
      clear hka hb3 hwa
      replace n0 := kept_cell (kept_new w3 (.cells #[.int .i64 n, .int .i64 m] 32)) n0
      replace n1 := kept_cell (kept_new w3 (.cells #[.int .i64 n, .int .i64 m] 32)) n1
      have u0 : (w3.alloc (.cells #[.int .i64 n, .int .i64 m] 32)).cell? ⟨w3.heap.size, 0, none⟩ = some (.int .i64 n) := by go_simp
      have u1 : (w3.alloc (.cells #[.int .i64 n, .int .i64 m] 32)).cell? ⟨w3.heap.size, 1, none⟩ = some (.int .i64 m) := by go_simp
      have hkb := kept_alloc hb03 (.cells #[.int .i64 n, .int .i64 m] 32)
      clear hb03
      generalize hwb : w3.alloc (.cells #[.int .i64 n, .int .i64 m] 32) = wb at *
      cases b1 <;> cases b2
      all_goals
        try have p6 := p6 rfl
        try have q6 := q6 rfl
        go_wp2_with fail
        refine (P7.out _).mono ?_
        rintro e w4 ⟨rfl, rfl⟩
        go_wp2_with fail
        refine (Q7.out _).mono ?_
        rintro e w4 ⟨rfl, rfl⟩
        go_wp2_with fail
        go_ret
        exact ⟨by simp [*], hkb⟩

theorem Try.own : ownKnob Try.prog.godebug = none := by kernel_rfl
theorem Try.laidOut : laidOutB Try.prog = true := by kernel_rfl

set_option maxRecDepth 100000 in
theorem fnGrid_lifted (os : Os) (started : os.Started) (H : Type) (enc : TypeId × Value → H) :
    ReturnsInHanded {} Try.checked os 5 .any (Rows.fnGridSpec.pre6 enc Try.prog Try.f5 Rows.fnGridRow.domain false) (Rows.fnGridSpec.post enc Try.prog Try.f5 false true false false) := by
  refine returnsInHanded_of_change (C := Try.checked) Try.own started (by kernel_rfl) Try.func5
    (ChangeSpec.witness6 (enc := enc) (C := Try.checked) false ⟨#[], #[.slice none 0 0], []⟩ 8 (by kernel_rfl) (by kernel_rfl) (by kernel_rfl) (by kernel_rfl)) ?_
  intro W base args ds gs before hval0 hW hcnd _
  have hval : ∀ (j : Nat) t v, Try.f5.params[j]? = some t → args[j]? = some v → Value.okWide Try.prog W .any base t v := hval0
  have hW' := hW
  obtain ⟨p, q, hA0, hV, rfl, hfz, hnd⟩ := hW
  have hA : DataW.TrodAll enc Try.prog W 0 (fun _ => true) true Try.f5.params.toList args.toList ds p := hA0
  rw [Try.params5] at hA hval
  obtain ⟨v0, d0, rfl, rfl, h0⟩ := trodAll_one hA
  obtain ⟨rfl, rfl⟩ := trodVars_none hV
  have h0k := h0
  obtain ⟨a0, len, cap, rfl⟩ := okWide_slice Try.underlying29 (hval 0 29 v0 rfl rfl)
  obtain ⟨fuel, hf⟩ := h0
  obtain ⟨A, c, bs, hv, hr⟩ := open_bytes Try.underlying29 Try.underlying5 (by kernel_rfl) hf
  rw [hv] at h0k hval hf ⊢
  clear hA0 hval0
  simp only [List.append_nil] at hW'
  rw [hv] at hW'
  refine (lawGrid A c bs W hr).mono fun e W' ⟨he, hb⟩ => ?_
  subst he
  exact ⟨_, rfl, _, _, _, [], _, [], hW', trodAll_mk1 (shut_bool Try.underlying4 _), trodAll_mk1 (Below.trod Try.laidOut (by kernel_rfl) (of_decide_eq_true (by kernel_rfl)) h0k hb (fun x hx => by simpa using hW'.lt x hx)), rfl, hb.frame _, fun h => by cases h⟩

theorem fnGrid_holds : Rows.FnGridSaid :=
  OpenClaim.holds_of_wide 5 Try.f5 rfl rfl rfl rfl rfl rfl rfl ⟨rfl, rfl, rfl, rfl, rfl⟩ rfl rfl rfl rfl rfl (by kernel_rfl) Try.func5 (by kernel_rfl)
    (of_decide_eq_true (by kernel_rfl)) (by unfold Func.isWrapper; first | (rw [if_pos (by decide +kernel)]; kernel_rfl) | (rw [if_neg (by decide +kernel)]; exact ⟨rfl, rfl⟩))
    (fun os started H enc _ => fnGrid_lifted os started H enc)

end Go.Proofs.Ytbaojldhbemcnaa
