/-
  How far two paths are apart, by the program and by the reference.
-/
import Derived.Test.YtnlmiemnblppbaaPa
import Derived.Test.YtnlmiemnblppbaaFr
import Derived.BigRegion
import Derived.Deep.QuietTactic
namespace Go.Proofs.Ytnlmiemnblppbaa
open Go.RowKit

theorem xor_top (k r : Nat) (h : r < 2 ^ k) : r ^^^ 2 ^ k = 2 ^ k + r := by
  apply Nat.eq_of_testBit_eq
  intro i
  rw [Nat.testBit_xor, Nat.testBit_two_pow]
  rcases Nat.lt_trichotomy i k with hi | rfl | hi
  · rw [Nat.testBit_two_pow_add_gt hi, decide_eq_false (by omega), Bool.xor_false]
  · rw [Nat.testBit_two_pow_add_eq, decide_eq_true rfl, Nat.testBit_lt_two_pow h]; rfl
  · have hp : 2 ^ (k + 1) ≤ 2 ^ i := Nat.pow_le_pow_right (by decide) hi
    have e : 2 ^ (k + 1) = 2 ^ k + 2 ^ k := by rw [Nat.pow_succ]; omega
    rw [decide_eq_false (by omega), Nat.testBit_lt_two_pow (show r < 2 ^ i by omega), Nat.testBit_lt_two_pow (show 2 ^ k + r < 2 ^ i by omega)]
    rfl

theorem neg_word (s : Bool) (r : Nat) (h : r < Ieee.single.infRung) : Op.negFloat .f32 (Ieee.single.word s r) = Ieee.single.word (!s) r := by
  have h31 : r < 2 ^ 31 := by rw [s_inf] at h; omega
  have e : Ieee.single.signWeight = 2 ^ 31 := by decide
  show Ieee.single.word s r ^^^ 2 ^ 31 = _
  unfold Ieee.Format.word
  rw [e]
  cases s
  · rw [if_neg (by decide), if_pos (by decide), xor_top 31 r h31]
  · rw [if_pos (by decide), if_neg (by decide), ← xor_top 31 r h31, Nat.xor_assoc, Nat.xor_self, Nat.xor_zero]

theorem neg_run (s : Bool) (r : Nat) (h : r < Ieee.single.infRung) (W : World) : (Op.unary .neg (.float .f32 (Ieee.single.word s r))).run Try.prog W = .ok (.float .f32 (Ieee.single.word (!s) r)) W := by
  rw [← neg_word s r h]
  rfl

theorem max2_run (M r : Nat) (s : Bool) (hM : M < Ieee.single.infRung) (hr : r < Ieee.single.infRung) (W : World) : (Builtin.max2 (.float .f32 M) (.float .f32 (Ieee.single.word s r))).run Try.prog W = .ok (.float .f32 (if s then M else max M r)) W := by
  have ho := order_key Ieee.single M (Ieee.single.word s r) (fin_word false M hM) (fin_word s r hr)
  rw [key_nat M hM, keyW_word s r hr] at ho
  have hneg : (FloatKind.f32.decode M).neg = false := by
    obtain ⟨m, p, hx, _⟩ := read_word Ieee.single false M hM
    have : FloatKind.f32.decode M = .number false m p := hx
    rw [this]
    rfl
  have hf : FloatKind.f32.format = Ieee.single := rfl
  unfold Builtin.max2
  dsimp only
  rw [hf, ho, hneg]
  cases s
  · simp only [Bool.false_eq_true, if_false]
    by_cases h1 : M < r
    · rw [(cmp_lt _ _).2 (by omega), Nat.max_eq_right (by omega)]
      rfl
    · by_cases h2 : M = r
      · subst h2
        rw [cmp_self, Nat.max_self]
        rfl
      · rw [(cmp_gt _ _).2 (by omega), Nat.max_eq_left (by omega)]
        rfl
  · simp only [if_true]
    by_cases h1 : M = 0 ∧ r = 0
    · obtain ⟨rfl, rfl⟩ := h1
      rfl
    · rw [(cmp_gt _ _).2 (by omega)]
      rfl

theorem far_step (M r1 r2 : Nat) (s1 s2 : Bool) (hM : M < Ieee.single.infRung) (h1 : r1 < Ieee.single.infRung) (h2 : r2 < Ieee.single.infRung) (ts : Array TypeId) (ty : TypeId) (W : World) :
    (Builtin.max_ ts ty #[.float .f32 M, .float .f32 (Ieee.single.word s1 r1), .float .f32 (Ieee.single.word (!s1) r1), .float .f32 (Ieee.single.word s2 r2), .float .f32 (Ieee.single.word (!s2) r2)]).run Try.prog W = .ok (.float .f32 (max (max M r1) r2)) W := by
  show (List.foldlM Builtin.max2 (.float .f32 M) [.float .f32 (Ieee.single.word s1 r1), .float .f32 (Ieee.single.word (!s1) r1), .float .f32 (Ieee.single.word s2 r2), .float .f32 (Ieee.single.word (!s2) r2)]).run Try.prog W = _
  have hm1 : max M r1 < Ieee.single.infRung := by omega
  have hm2 : max (max M r1) r2 < Ieee.single.infRung := by omega
  simp only [List.foldlM_cons, List.foldlM_nil, Sem.run_bind]
  rw [max2_run M r1 s1 hM h1, Result.andThen_ok]
  have e1 : (if s1 = true then M else max M r1) < Ieee.single.infRung := by split <;> omega
  rw [max2_run _ r1 (!s1) e1 h1, Result.andThen_ok]
  have e2 : (if (!s1) = true then (if s1 = true then M else max M r1) else max (if s1 = true then M else max M r1) r1) = max M r1 := by
    cases s1 <;> simp
  rw [e2, max2_run _ r2 s2 hm1 h2, Result.andThen_ok]
  have e3 : (if s2 = true then max M r1 else max (max M r1) r2) < Ieee.single.infRung := by split <;> omega
  rw [max2_run _ r2 (!s2) e3 h2, Result.andThen_ok]
  have e4 : (if (!s2) = true then (if s2 = true then max M r1 else max (max M r1) r2) else max (if s2 = true then max M r1 else max (max M r1) r2) r2) = max (max M r1) r2 := by
    cases s2 <;> simp
  rw [e4]
  rfl

theorem l10More_ok (a b : Nat) (w : World) (ha : Fin0 Ieee.single a) (hb : Fin0 Ieee.single b) : Calls Try.prog 67 #[.float .f32 a, .float .f32 b] w fun e w' => e = .returned (.float .f32 (mw a b)) ∧ w = w' := by
  have ho := ord_gt Ieee.single b a hb ha
  have hf : FloatKind.f32.format = Ieee.single := rfl
  unfold mw
  by_cases h : keyW Ieee.single a < keyW Ieee.single b
  · rw [decide_eq_true h, ← hf] at ho
    rw [if_pos h]
    clear h ha hb hf
    go_enter Try.func67, Try.ntmps67
    go_wp2_with fail
    go_ret
    exact ⟨rfl, rfl⟩
  · rw [decide_eq_false h, ← hf] at ho
    rw [if_neg h]
    clear h ha hb hf
    go_enter Try.func67, Try.ntmps67
    go_wp2_with fail
    go_ret
    exact ⟨rfl, rfl⟩

/-- How far two paths are apart, up to a point. -/
def farN (zs zs' : List (Nat × Nat)) : Nat → Nat
  | 0 => 0
  | t + 1 => max (max (farN zs zs' t) (disW (zs.getD t (0, 0)).1 (zs'.getD t (0, 0)).1)) (disW (zs.getD t (0, 0)).2 (zs'.getD t (0, 0)).2)

theorem path_part {zs : List (Nat × Nat)} (hp : pathOk zs = true) {t : Nat} (h : t < zs.length) : partB (zs[t]).1 = true ∧ partB (zs[t]).2 = true := by
  simp only [pathOk, Bool.and_eq_true, List.all_eq_true, ptB] at hp
  exact hp.2 _ (List.getElem_mem h)

theorem getD_at {zs : List (Nat × Nat)} {t : Nat} (h : t < zs.length) : zs.getD t (0, 0) = zs[t] := by
  rw [List.getD_eq_getElem?_getD, List.getElem?_eq_getElem h, Option.getD_some]

theorem farN_succ (zs zs' : List (Nat × Nat)) (t : Nat) (h : t < zs.length) (h' : t < zs'.length) : farN zs zs' (t + 1) = max (max (farN zs zs' t) (disW (zs[t]).1 (zs'[t]).1)) (disW (zs[t]).2 (zs'[t]).2) := by
  show max (max _ _) _ = _
  rw [getD_at h, getD_at h']

theorem farN_lt {zs zs' : List (Nat × Nat)} (hp : pathOk zs = true) (hp' : pathOk zs' = true) (hl : zs.length = zs'.length) (t : Nat) (ht : t ≤ zs.length) : farN zs zs' t < Ieee.single.infRung := by
  induction t with
  | zero => show 0 < _; rw [s_inf]; decide
  | succ t ih =>
    have h1 := ih (by omega)
    rw [farN_succ zs zs' t (by omega) (by omega)]
    obtain ⟨a1, a2⟩ := path_part hp (show t < zs.length by omega)
    obtain ⟨b1, b2⟩ := path_part hp' (show t < zs'.length by omega)
    have h2 := (dis_ok _ _ a1 b1).2.2.1
    have h3 := (dis_ok _ _ a2 b2).2.2.1
    omega

theorem farN_swap {zs zs' : List (Nat × Nat)} (hp : pathOk zs = true) (hp' : pathOk zs' = true) (hl : zs.length = zs'.length) (t : Nat) (ht : t ≤ zs.length) : farN zs' zs t = farN zs zs' t := by
  induction t with
  | zero => rfl
  | succ t ih =>
    rw [farN_succ zs zs' t (by omega) (by omega), farN_succ zs' zs t (by omega) (by omega), ih (by omega)]
    obtain ⟨a1, a2⟩ := path_part hp (show t < zs.length by omega)
    obtain ⟨b1, b2⟩ := path_part hp' (show t < zs'.length by omega)
    rw [(dis_ok _ _ a1 b1).2.1, (dis_ok _ _ a2 b2).2.1]

set_option maxRecDepth 100000 in
set_option maxHeartbeats 1000000 in
theorem implFar_ok (v v' : Value) (zs zs' : List (Nat × Nat)) (w : World) (hr : Reads w 1 v zs.length (cCells zs)) (hr' : Reads w 1 v' zs'.length (cCells zs')) (hp : pathOk zs = true) (hp' : pathOk zs' = true) (hl : zs.length = zs'.length) :
    Calls Try.prog 31 #[v, v'] w fun e w' => e = .returned (.tuple #[.float .f32 (farN zs zs' zs.length), .bool true]) ∧ Below w.heap.size w w' := by
  have hi := fun w hr => implPath_ok v zs w hr
  rw [hp] at hi
  have hi' := fun w hr => implPath_ok v' zs' w hr
  rw [hp'] at hi'
  have Hpv := hide hi
  have Hpv' := hide hi'
  have Hr := hide hr
  have Hr' := hide hr'
  have Hlt := hide (fun t ht => farN_lt hp hp' hl t ht)
  have Hpp := hide (fun t (h : t < zs.length) => path_part hp h)
  have Hpp' := hide (fun t (h : t < zs'.length) => path_part hp' h)
  have hl2 : (zs.length : Int) = (zs'.length : Int) := by omega
  have Hl := hide hl
  clear hi hi' hp hp' hl
  obtain ⟨_, hm, A, c, rfl, hc⟩ := hr
  obtain ⟨_, hm', A', c', rfl, hc'⟩ := hr'
  go_enter Try.func31, Try.ntmps31
  go_wp2_with fail
  refine (Hpv.out _ Hr.out).mono ?_
  rintro e w1 ⟨rfl, rfl⟩
  go_wp2_with fail
  refine (Hpv'.out _ Hr'.out).mono ?_
  rintro e w1 ⟨rfl, rfl⟩
  go_wp2_with fail
  go_loopw [6, 26] (fun u i wr => ∃ t m : Nat, t ≤ zs.length ∧ i = .int .i64 t ∧ u = .float .f32 (farN zs zs' t) ∧ wr = w.drewN m) (fun _ i _ => zs.length - (intOf i).toNat)
  case atStart => exact ⟨0, 0, by omega, rfl, rfl, rfl⟩
  case round =>
    obtain ⟨t, m, ht, rfl, rfl, rfl⟩ := hrel
    by_cases hlt : t < zs.length
    · have hlt' : t < zs'.length := by have := Hl.out; omega
      obtain ⟨b, o, rfl, hbl, hcell⟩ := hc (by omega) (by omega)
      obtain ⟨b', o', rfl, hbl', hcell'⟩ := hc' (by omega) (by omega)
      have h1 := (hcell t (by omega)).trans (cCells_get zs t hlt)
      have h1' := (hcell' t (by omega)).trans (cCells_get zs' t hlt')
      obtain ⟨a1, a2⟩ := Hpp.out t hlt
      obtain ⟨b1, b2⟩ := Hpp'.out t hlt'
      have Hs := hide (farN_succ zs zs' t hlt hlt')
      have hM := Hlt.out t ht
      clear hcell hc hcell' hc'
      generalize zs[t] = z at h1 a1 a2 Hs
      generalize zs'[t] = z' at h1' b1 b2 Hs
      obtain ⟨x, y⟩ := z
      obtain ⟨x', y'⟩ := z'
      dsimp only at h1 h1' a1 a2 b1 b2 Hs
      obtain ⟨⟨s1, e1⟩, _, l1, _⟩ := dis_ok x x' a1 b1
      obtain ⟨⟨s2, e2⟩, _, l2, _⟩ := dis_ok y y' a2 b2
      generalize disW x x' = r1 at *
      generalize disW y y' = r2 at *
      generalize farN zs zs' t = M at *
      have hs : ∀ W, (binOp .sub 46 (.complex .f32 x y) (.complex .f32 x' y')).run Try.prog W = .ok (.complex .f32 (Ieee.single.word s1 r1) (Ieee.single.word s2 r2)) W := fun W => run_complex_sum W .sub (.inr rfl) _ _ _ _ _ _ _ _ (by
        have e1' : floatBits .sub .f32 x x' = some (Ieee.single.word s1 r1) := e1
        have e2' : floatBits .sub .f32 y y' = some (Ieee.single.word s2 r2) := e2
        simp [cSumBits, e1', e2'])
      have hn1 := fun W => neg_run s1 r1 l1 W
      have hn2 := fun W => neg_run s2 r2 l2 W
      have hmx := fun ts ty W => far_step M r1 r2 s1 s2 hM l1 l2 ts ty W
      clear e1 e2 a1 a2 b1 b2 l1 l2 hM
      generalize Ieee.single.word (!s1) r1 = n1 at *
      generalize Ieee.single.word (!s2) r2 = n2 at *
      generalize Ieee.single.word s1 r1 = d1 at *
      generalize Ieee.single.word s2 r2 = d2 at *
      have q3 : (0 : Int) ≤ (t : Int) := by omega
      have q4 : (t : Int) < (zs.length : Int) := by omega
      have q5 : (t : Int) < (zs'.length : Int) := by omega
      clear hl2
      go_wp2_with fail
      go_quiet (fail)
      go_wp2_with fail
      go_roundw
      case rel => exact ⟨t + 1, _, by omega, by go_num, by rw [Hs.out, Nat.max_assoc], rfl⟩
      case measure => simp [intOf]; omega
    · obtain rfl : t = zs.length := by omega
      go_wp2_with fail
      go_ret2
      exact ⟨rfl, kept_drewN _ _⟩

set_option maxRecDepth 100000 in
set_option maxHeartbeats 1000000 in
theorem specFar_ok (v v' : Value) (zs zs' : List (Nat × Nat)) (w : World) (hr : Reads w 1 v zs.length (cCells zs)) (hr' : Reads w 1 v' zs'.length (cCells zs')) (hp : pathOk zs = true) (hp' : pathOk zs' = true) (hl : zs.length = zs'.length) :
    Calls Try.prog 33 #[v, v'] w fun e w' => e = .returned (.tuple #[.float .f32 (farN zs zs' zs.length), .bool true]) ∧ Below w.heap.size w w' := by
  have hi := fun w hr => specPath_ok v zs w hr
  rw [hp] at hi
  have hi' := fun w hr => specPath_ok v' zs' w hr
  rw [hp'] at hi'
  have Hpv := hide hi
  have Hpv' := hide hi'
  have Hr := hide hr
  have Hr' := hide hr'
  have Hlt := hide (fun t ht => farN_lt hp hp' hl t ht)
  have Hpp := hide (fun t (h : t < zs.length) => path_part hp h)
  have Hpp' := hide (fun t (h : t < zs'.length) => path_part hp' h)
  have hl2 : (zs.length : Int) = (zs'.length : Int) := by omega
  have Hl := hide hl
  clear hi hi' hp hp' hl
  obtain ⟨_, hm, A, c, rfl, hc⟩ := hr
  obtain ⟨_, hm', A', c', rfl, hc'⟩ := hr'
  go_enter Try.func33, Try.ntmps33
  go_wp2_with fail
  refine (Hpv.out _ Hr.out).mono ?_
  rintro e w1 ⟨rfl, rfl⟩
  go_wp2_with fail
  refine (Hpv'.out _ Hr'.out).mono ?_
  rintro e w1 ⟨rfl, rfl⟩
  go_wp2_with fail
  go_loopw [6, 7] (fun u i wr => ∃ t m : Nat, t ≤ zs.length ∧ i = .int .i64 t ∧ u = .float .f32 (farN zs zs' t) ∧ wr = w.drewN m) (fun _ i _ => zs.length - (intOf i).toNat)
  case atStart => exact ⟨0, 0, by omega, rfl, rfl, rfl⟩
  case round =>
    obtain ⟨t, m, ht, rfl, rfl, rfl⟩ := hrel
    by_cases hlt : t < zs.length
    · have hlt' : t < zs'.length := by have := Hl.out; omega
      obtain ⟨b, o, rfl, hbl, hcell⟩ := hc (by omega) (by omega)
      obtain ⟨b', o', rfl, hbl', hcell'⟩ := hc' (by omega) (by omega)
      have h1 := (hcell t (by omega)).trans (cCells_get zs t hlt)
      have h1' := (hcell' t (by omega)).trans (cCells_get zs' t hlt')
      obtain ⟨a1, a2⟩ := Hpp.out t hlt
      obtain ⟨b1, b2⟩ := Hpp'.out t hlt'
      have Hs := hide (farN_succ zs zs' t hlt hlt')
      have hM := Hlt.out t ht
      clear hcell hc hcell' hc'
      generalize zs[t] = z at h1 a1 a2 Hs
      generalize zs'[t] = z' at h1' b1 b2 Hs
      obtain ⟨x, y⟩ := z
      obtain ⟨x', y'⟩ := z'
      dsimp only at h1 h1' a1 a2 b1 b2 Hs
      obtain ⟨⟨s1, e1⟩, _, l1, _⟩ := dis_ok x x' a1 b1
      obtain ⟨⟨s2, e2⟩, _, l2, _⟩ := dis_ok y y' a2 b2
      generalize disW x x' = r1 at *
      generalize disW y y' = r2 at *
      generalize farN zs zs' t = M at *
      have hs : ∀ W, (binOp .sub 46 (.complex .f32 x y) (.complex .f32 x' y')).run Try.prog W = .ok (.complex .f32 (Ieee.single.word s1 r1) (Ieee.single.word s2 r2)) W := fun W => run_complex_sum W .sub (.inr rfl) _ _ _ _ _ _ _ _ (by
        have e1' : floatBits .sub .f32 x x' = some (Ieee.single.word s1 r1) := e1
        have e2' : floatBits .sub .f32 y y' = some (Ieee.single.word s2 r2) := e2
        simp [cSumBits, e1', e2'])
      obtain ⟨t1, f1, g1⟩ := zero_sub s1 r1 l1
      obtain ⟨t2, f2, g2⟩ := zero_sub s2 r2 l2
      have d1 : ∀ W, (binOp .sub 55 (.float .f32 0) (.float .f32 (Ieee.single.word s1 r1))).run Try.prog W = .ok (.float .f32 (Ieee.single.word t1 r1)) W := fun W => run_float_arith W .sub _ .f32 _ _ _ f1
      have d2 : ∀ W, (binOp .sub 55 (.float .f32 0) (.float .f32 (Ieee.single.word s2 r2))).run Try.prog W = .ok (.float .f32 (Ieee.single.word t2 r2)) W := fun W => run_float_arith W .sub _ .f32 _ _ _ f2
      have Hfs := hide (far_spec M r1 r2 s1 s2 t1 t2 hM l1 l2 g1 g2)
      have w0 := fin_word false M hM
      have w1 := fin_word s1 r1 l1
      have w2 := fin_word s2 r2 l2
      have w3 := fin_word t1 r1 l1
      have w4 := fin_word t2 r2 l2
      have H1 := hide (fun W => l10More_ok M _ W w0 w1)
      have H2 := hide (fun W => l10More_ok _ _ W w3 w4)
      have H3 := hide (fun W => l10More_ok _ _ W w2 (mw_fin w3 w4))
      have H4 := hide (fun W => l10More_ok _ _ W (mw_fin w0 w1) (mw_fin w2 (mw_fin w3 w4)))
      rw [word_f] at H4
      clear e1 e2 a1 a2 b1 b2 l1 l2 hM f1 f2 g1 g2 w0 w1 w2 w3 w4
      generalize Ieee.single.word t1 r1 = n1 at *
      generalize Ieee.single.word t2 r2 = n2 at *
      generalize Ieee.single.word s1 r1 = x1 at *
      generalize Ieee.single.word s2 r2 = x2 at *
      have q3 : (0 : Int) ≤ (t : Int) := by omega
      have q4 : (t : Int) < (zs.length : Int) := by omega
      have q5 : (t : Int) < (zs'.length : Int) := by omega
      clear hl2
      go_wp2_with fail
      go_quiet (fail)
      go_wp2_with fail
      refine (H1.out _).mono ?_
      rintro e w3 ⟨rfl, rfl⟩
      go_wp2_with fail
      refine (H2.out _).mono ?_
      rintro e w3 ⟨rfl, rfl⟩
      go_wp2_with fail
      refine (H3.out _).mono ?_
      rintro e w3 ⟨rfl, rfl⟩
      go_wp2_with fail
      refine (H4.out _).mono ?_
      rintro e w3 ⟨rfl, rfl⟩
      go_wp2_with fail
      go_roundw
      case rel => exact ⟨t + 1, _, by omega, by go_num, by rw [Hs.out, Hfs.out], rfl⟩
      case measure => simp [intOf]; omega
    · obtain rfl : t = zs.length := by omega
      go_wp2_with fail
      go_ret2
      exact ⟨rfl, kept_drewN _ _⟩

/-- Where one is no path, or one is longer. -/
theorem implFarF_ok (v v' : Value) (zs zs' : List (Nat × Nat)) (w : World) (hr : Reads w 1 v zs.length (cCells zs)) (hr' : Reads w 1 v' zs'.length (cCells zs')) (h : pathOk zs = false ∨ pathOk zs' = false ∨ zs.length ≠ zs'.length) :
    Calls Try.prog 31 #[v, v'] w fun e w' => e = .returned (.tuple #[.float .f32 0, .bool false]) ∧ w = w' := by
  have hi := implPath_ok v zs w hr
  have hi' := implPath_ok v' zs' w hr'
  cases hp : pathOk zs with
  | false =>
    rw [hp] at hi
    have Hpv := hide hi
    clear hi hi' hp h hr hr'
    go_enter Try.func31, Try.ntmps31
    go_wp2_with fail
    refine Hpv.out.mono ?_
    rintro e w1 ⟨rfl, rfl⟩
    go_wp2_with fail
    go_ret2
    exact ⟨rfl, rfl⟩
  | true =>
    rw [hp] at hi
    have Hpv := hide hi
    cases hp' : pathOk zs' with
    | false =>
      rw [hp'] at hi'
      have Hpv' := hide hi'
      clear hi hi' hp hp' h hr hr'
      go_enter Try.func31, Try.ntmps31
      go_wp2_with fail
      refine Hpv.out.mono ?_
      rintro e w1 ⟨rfl, rfl⟩
      go_wp2_with fail
      refine Hpv'.out.mono ?_
      rintro e w1 ⟨rfl, rfl⟩
      go_wp2_with fail
      go_ret2
      exact ⟨rfl, rfl⟩
    | true =>
      rw [hp'] at hi'
      have Hpv' := hide hi'
      have hl : zs.length ≠ zs'.length := by
        rcases h with h | h | h
        · rw [hp] at h; cases h
        · rw [hp'] at h; cases h
        · exact h
      obtain ⟨-, hm, A, c, rfl, -⟩ := hr
      obtain ⟨-, hm', A', c', rfl, -⟩ := hr'
      have hb : ((zs.length : Int) != (zs'.length : Int)) = true := bne_iff_ne.2 (by omega)
      have hb2 : ((zs.length : Int) == (zs'.length : Int)) = false := beq_eq_false_iff_ne.2 (by omega)
      have hb3 : ¬ (zs.length : Int) = (zs'.length : Int) := by omega
      clear hi hi' hp hp' h
      go_enter Try.func31, Try.ntmps31
      go_wp2_with fail
      refine Hpv.out.mono ?_
      rintro e w1 ⟨rfl, rfl⟩
      go_wp2_with fail
      refine Hpv'.out.mono ?_
      rintro e w1 ⟨rfl, rfl⟩
      go_wp2_with fail
      go_ret2
      exact ⟨rfl, rfl⟩

theorem specFarF_ok (v v' : Value) (zs zs' : List (Nat × Nat)) (w : World) (hr : Reads w 1 v zs.length (cCells zs)) (hr' : Reads w 1 v' zs'.length (cCells zs')) (h : pathOk zs = false ∨ pathOk zs' = false ∨ zs.length ≠ zs'.length) :
    Calls Try.prog 33 #[v, v'] w fun e w' => e = .returned (.tuple #[.float .f32 0, .bool false]) ∧ w = w' := by
  have hi := specPath_ok v zs w hr
  have hi' := specPath_ok v' zs' w hr'
  cases hp : pathOk zs with
  | false =>
    rw [hp] at hi
    have Hpv := hide hi
    clear hi hi' hp h hr hr'
    go_enter Try.func33, Try.ntmps33
    go_wp2_with fail
    refine Hpv.out.mono ?_
    rintro e w1 ⟨rfl, rfl⟩
    go_wp2_with fail
    go_ret2
    exact ⟨rfl, rfl⟩
  | true =>
    rw [hp] at hi
    have Hpv := hide hi
    cases hp' : pathOk zs' with
    | false =>
      rw [hp'] at hi'
      have Hpv' := hide hi'
      clear hi hi' hp hp' h hr hr'
      go_enter Try.func33, Try.ntmps33
      go_wp2_with fail
      refine Hpv.out.mono ?_
      rintro e w1 ⟨rfl, rfl⟩
      go_wp2_with fail
      refine Hpv'.out.mono ?_
      rintro e w1 ⟨rfl, rfl⟩
      go_wp2_with fail
      go_ret2
      exact ⟨rfl, rfl⟩
    | true =>
      rw [hp'] at hi'
      have Hpv' := hide hi'
      have hl : zs.length ≠ zs'.length := by
        rcases h with h | h | h
        · rw [hp] at h; cases h
        · rw [hp'] at h; cases h
        · exact h
      obtain ⟨-, hm, A, c, rfl, -⟩ := hr
      obtain ⟨-, hm', A', c', rfl, -⟩ := hr'
      have hb : ((zs.length : Int) != (zs'.length : Int)) = true := bne_iff_ne.2 (by omega)
      have hb2 : ((zs.length : Int) == (zs'.length : Int)) = false := beq_eq_false_iff_ne.2 (by omega)
      have hb3 : ¬ (zs.length : Int) = (zs'.length : Int) := by omega
      clear hi hi' hp hp' h
      go_enter Try.func33, Try.ntmps33
      go_wp2_with fail
      refine Hpv.out.mono ?_
      rintro e w1 ⟨rfl, rfl⟩
      go_wp2_with fail
      refine Hpv'.out.mono ?_
      rintro e w1 ⟨rfl, rfl⟩
      go_wp2_with fail
      go_ret2
      exact ⟨rfl, rfl⟩

end Go.Proofs.Ytnlmiemnblppbaa
