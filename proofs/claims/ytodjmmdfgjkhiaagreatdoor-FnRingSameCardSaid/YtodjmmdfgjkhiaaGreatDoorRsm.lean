/-
  RingSame, of the program and of the reference.
-/
import Derived.Test.YtodjmmdfgjkhiaaGreatDoorRg
import Derived.Test.YtodjmmdfgjkhiaaGreatDoorWq
import Derived.Test.YtodjmmdfgjkhiaaGreatDoorWe
namespace Go.Proofs.YtodjmmdfgjkhiaaGreatDoor
open Go.RowKit

set_option maxHeartbeats 1000000 in
theorem backW_ok (x : W9) (w : World) (hx : x.okB = true) :
    Calls Tryz.prog 21 #[x.val] w fun e w' => e = .returned (⟨-x.s, x.c⟩ : W9).val ∧ Below w.heap.size w w' := by
  obtain ⟨h1, h2, _⟩ := okB_t hx
  clear hx
  rw [val9_spell, val9_spell]
  go_enter Tryz.func21, Tryz.ntmps21
  go_wp2_with fail
  exact bodyPost_ret (v := .agg #[.int .i64 (-x.s), .int .i64 x.c.a0, .int .i64 x.c.a1, .int .i64 x.c.a2, .int .i64 x.c.a3, .int .i64 x.c.a4, .int .i64 x.c.a5, .int .i64 x.c.a6, .int .i64 x.c.a7]) (by simp [results, Tryz.results21, go_sem]) rfl ⟨rfl, kept_alloc (kept_new _ _) _⟩

theorem fast_neg (x : W9) : fastW (-1) x = ⟨-x.s, x.c⟩ := by
  unfold fastW
  rw [Int.neg_mul, Int.one_mul]

def backRes (ws : List W9) : List W9 × Bool := changeRes (fastW (-1)) ws

theorem backImpl_ok (v : Value) (ws : List W9) (w : World) (hr : Reads w 9 v ws.length (wlCells ws)) (hn : ws.length ≤ 1048576) :
    Calls Tryz.prog 10 #[v] w (WlPost (backRes ws) w) := by
  have eg : ∀ args w, (callFunc 21 args).run Tryz.prog w = .ok (.enter 21 args) w := enters_of Tryz.func21 (by kernel_rfl) rfl
  have hc := changed_ok 21 #[] (fastW (-1)) eg v ws w hr hn (fun x W hx _ => by rw [fast_neg]; simpa using backW_ok x W hx) (fun x hx => (okB_t hx).2.2)
  clear hr eg
  go_enter Tryz.func10, Tryz.ntmps10
  go_wp2_with fail
  refine hc.mono ?_
  rintro e w2 ⟨v2, rfl, hh, hb2⟩
  clear hc
  go_wp2_with fail
  go_ret2
  exact ⟨v2, rfl, hh, hb2⟩

theorem backSpec_ok (v : Value) (ws : List W9) (w : World) (hr : Reads w 9 v ws.length (wlCells ws)) (hn : ws.length ≤ 1048576) :
    Calls Tryz.prog 13 #[v] w (WlPost (backRes ws) w) := by
  have hc := each_ok (-1) v ws w hr hn (by decide)
  clear hr
  go_enter Tryz.func13, Tryz.ntmps13
  go_wp2_with fail
  refine hc.mono ?_
  rintro e w2 ⟨v2, rfl, hh, hb2⟩
  clear hc
  go_wp2_with fail
  go_ret2
  exact ⟨v2, rfl, hh, hb2⟩

def sameRes (r q p o : Int) : Bool :=
  (ringRes r q p true).2 && ((ringRes r (wrap64 (r - q)) o true).2 && ((backRes (ringRes r q p true).1).2 && decide ((backRes (ringRes r q p true).1).1 = (ringRes r (wrap64 (r - q)) o true).1)))

theorem ringRes_len (r q p : Int) (i : Bool) : (ringRes r q p i).1.length ≤ 12 := by
  unfold ringRes
  split
  · unfold tidyRes doneW
    split
    · rename_i h
      exact (designB_small h.2).1
    · simp
  · simp

set_option maxHeartbeats 2000000 in
theorem sameSpec_ok (r q p o : Int) (w : World) : Calls Tryz.prog 6 #[.int .i64 r, .int .i64 q, .int .i64 p, .int .i64 o] w fun e w' => e = .returned (.bool (sameRes r q p o)) ∧ Below w.heap.size w w' := by
  have h1 := fun w => ringSpec_ok r q p true w
  have h2 := fun w => ringSpec_ok r (wrap64 (r - q)) o true w
  have hb := fun v w hr hn => backSpec_ok v (ringRes r q p true).1 w hr hn
  have hl := ringRes_len r q p true
  have Hres : Hid (sameRes r q p o = ((ringRes r q p true).2 && ((ringRes r (wrap64 (r - q)) o true).2 && ((backRes (ringRes r q p true).1).2 && decide ((backRes (ringRes r q p true).1).1 = (ringRes r (wrap64 (r - q)) o true).1))))) := rfl
  unfold WlPost at h1 h2 hb
  generalize backRes (ringRes r q p true).1 = c at hb Hres
  generalize ringRes r q p true = a at h1 hb hl Hres
  generalize ringRes r (wrap64 (r - q)) o true = b at h2 Hres
  obtain ⟨xs, ak⟩ := a
  obtain ⟨ys, bk⟩ := b
  obtain ⟨zs, ck⟩ := c
  dsimp only at h1 h2 hb hl Hres
  have H1 := hide h1
  have H2 := hide h2
  have HB := hide hb
  clear h1 h2 hb
  cases ak
  · go_enter Tryz.func6, Tryz.ntmps6
    go_wp2_with fail
    refine (H1.out _).mono ?_
    rintro e w1 ⟨v1, rfl, hh1, hb1⟩
    go_wp2_with fail
    refine (H2.out _).mono ?_
    rintro e w2 ⟨v2, rfl, hh2, hb2⟩
    go_wp2_with fail
    go_ret
    exact ⟨by rw [Hres.out]; rfl, kept_trans hb1 hb2⟩
  · cases bk
    · go_enter Tryz.func6, Tryz.ntmps6
      go_wp2_with fail
      refine (H1.out _).mono ?_
      rintro e w1 ⟨v1, rfl, hh1, hb1⟩
      go_wp2_with fail
      refine (H2.out _).mono ?_
      rintro e w2 ⟨v2, rfl, hh2, hb2⟩
      go_wp2_with fail
      go_ret
      exact ⟨by rw [Hres.out]; rfl, kept_trans hb1 hb2⟩
    · go_enter Tryz.func6, Tryz.ntmps6
      go_wp2_with fail
      refine (H1.out _).mono ?_
      rintro e w1 ⟨v1, rfl, hh1, hb1⟩
      go_wp2_with fail
      refine (H2.out _).mono ?_
      rintro e w2 ⟨v2, rfl, hh2, hb2⟩
      have hb02 := kept_trans hb1 hb2
      go_wp2_with fail
      refine (HB.out _ _ (has_reads (has_kept hh1 hb2)) (by omega)).mono ?_
      rintro e w3 ⟨v3, rfl, hh3, hb3⟩
      have hb03 := kept_trans hb02 hb3
      cases ck
      · go_wp2_with fail
        go_ret
        exact ⟨by rw [Hres.out]; rfl, hb03⟩
      · go_wp2_with fail
        refine (l5Equal_ok _ _ zs ys _ (has_reads hh3) (has_reads (has_kept hh2 hb3))).mono ?_
        rintro e w4 ⟨rfl, hb4⟩
        go_wp2_with fail
        go_ret
        exact ⟨by rw [Hres.out]; rfl, kept_trans hb03 hb4⟩

set_option maxHeartbeats 2000000 in
theorem sameImpl_ok (r q p o : Int) (w : World) (hg : Handle w) : Calls Tryz.prog 5 #[.int .i64 r, .int .i64 q, .int .i64 p, .int .i64 o] w fun e w' => e = .returned (.bool (sameRes r q p o)) ∧ Below w.heap.size w w' := by
  have h1 := fun w hg => ringImpl_ok r q p true w hg
  have h2 := fun w hg => ringImpl_ok r (wrap64 (r - q)) o true w hg
  have hb := fun v w hr hn => backImpl_ok v (ringRes r q p true).1 w hr hn
  have hl := ringRes_len r q p true
  have Hres : Hid (sameRes r q p o = ((ringRes r q p true).2 && ((ringRes r (wrap64 (r - q)) o true).2 && ((backRes (ringRes r q p true).1).2 && decide ((backRes (ringRes r q p true).1).1 = (ringRes r (wrap64 (r - q)) o true).1))))) := rfl
  unfold WlPost at h1 h2 hb
  generalize backRes (ringRes r q p true).1 = c at hb Hres
  generalize ringRes r q p true = a at h1 hb hl Hres
  generalize ringRes r (wrap64 (r - q)) o true = b at h2 Hres
  obtain ⟨xs, ak⟩ := a
  obtain ⟨ys, bk⟩ := b
  obtain ⟨zs, ck⟩ := c
  dsimp only at h1 h2 hb hl Hres
  have H1 := hide h1
  have H2 := hide h2
  have HB := hide hb
  have HG := hide hg
  clear h1 h2 hb hg
  go_enter Tryz.func5, Tryz.ntmps5
  go_wp2_with fail
  refine (H1.out _ HG.out).mono ?_
  rintro e w1 ⟨v1, rfl, hh1, hb1⟩
  go_wp2_with fail
  refine (HB.out _ _ (has_reads hh1) (by omega)).mono ?_
  rintro e w2 ⟨v2, rfl, hh2, hb2⟩
  have hb02 := kept_trans hb1 hb2
  go_wp2_with fail
  refine (H2.out _ (handle_kept HG.out hb02)).mono ?_
  rintro e w3 ⟨v3, rfl, hh3, hb3⟩
  have hb03 := kept_trans hb02 hb3
  cases ak
  · go_wp2_with fail
    go_ret
    exact ⟨by rw [Hres.out]; rfl, hb03⟩
  · cases ck
    · go_wp2_with fail
      go_ret
      exact ⟨by rw [Hres.out]; cases bk <;> rfl, hb03⟩
    · cases bk
      · go_wp2_with fail
        go_ret
        exact ⟨by rw [Hres.out]; rfl, hb03⟩
      · go_wp2_with fail
        refine (slicesEqual_ok _ _ zs ys _ (has_reads (has_kept hh2 hb3)) (has_reads hh3)).mono ?_
        rintro e w4 ⟨rfl, hb4⟩
        go_wp2_with fail
        go_ret
        exact ⟨by rw [Hres.out]; rfl, kept_trans hb03 hb4⟩

end Go.Proofs.YtodjmmdfgjkhiaaGreatDoor
