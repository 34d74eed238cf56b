/-
  TrainFind of the program and of the reference: both give the first pair that fits.
-/
import Derived.Test.YtiiocjkhjogfkaaDoorRows
import Derived.Test.YtiiocjkhjogfkaaDoorBase
namespace Go.Proofs.YtiiocjkhjogfkaaDoor
open Go.RowKit

/-- The first pair from a on, among so many. -/
def tfFrom : Nat → Int → Int → Int → List Int × Bool
  | 0, _, _, _ => ([], false)
  | f + 1, top, bottom, a => if a * bottom % top = 0 ∧ 6 ≤ a * bottom / top ∧ a * bottom / top ≤ 240 then ([a, a * bottom / top], true) else tfFrom f top bottom (a + 1)

def tfAll (top bottom : Int) : List Int × Bool :=
  if 1 ≤ top ∧ top ≤ 1000 ∧ 1 ≤ bottom ∧ bottom ≤ 1000 then tfFrom 235 top bottom 6 else ([], false)

def TfPost (r : List Int × Bool) (w : World) (e : Ending) (w' : World) : Prop :=
  ∃ v, e = .returned (.tuple #[v, .bool r.2]) ∧ w'.ownsRow w.heap.size 3 1 v r.1.length (r.1.map (Value.int .i64)) ∧ Below w.heap.size w w'

theorem tfPost_nil (w : World) : TfPost ([], false) w (.returned (.tuple #[.slice none 0 0, .bool false])) w :=
  ⟨_, rfl, World.ownsRow_nil _ _ _ _, Below.refl _ _⟩

theorem tfPost_empty (w : World) : TfPost ([], false) w (.returned (.tuple #[.slice (some ⟨w.heap.size, 0, none⟩) 0 0, .bool false])) (w.alloc (.cells #[] 3)) :=
  ⟨_, rfl, by simpa using World.ownsRow_lit (base := w.heap.size) (e := 3) (size := 1) w #[] 0 (Nat.le_refl _) (by decide) (by simp), (Below.refl _ _).alloc (Nat.le_refl _) _⟩

theorem tfPost_pair (w : World) (a b : Int) : TfPost ([a, b], true) w (.returned (.tuple #[.slice (some ⟨w.heap.size, 0, none⟩) 2 2, .bool true])) (w.alloc (.cells #[.int .i64 a, .int .i64 b] 3)) :=
  ⟨_, rfl, by simpa using World.ownsRow_lit (base := w.heap.size) (e := 3) (size := 1) w #[.int .i64 a, .int .i64 b] 2 (Nat.le_refl _) (by decide) (by simp), (Below.refl _ _).alloc (Nat.le_refl _) _⟩

theorem tf_mul_bounds (a b : Int) (h1 : 6 ≤ a) (h2 : a ≤ 240) (h3 : 1 ≤ b) (h4 : b ≤ 1000) : 0 ≤ a * b ∧ a * b ≤ 240000 :=
  ⟨Int.mul_nonneg (by omega) (by omega), by have := Int.mul_le_mul h2 h4 (by omega) (by omega : (0 : Int) ≤ 240); omega⟩

theorem tf_div_bounds (m t : Int) (h0 : 0 ≤ m) (h1 : m ≤ 240000) (h2 : 1 ≤ t) : 0 ≤ m / t ∧ m / t ≤ 240000 ∧ 0 ≤ m % t ∧ m % t ≤ 240000 := by
  have a1 := Int.ediv_nonneg h0 (by omega : 0 ≤ t)
  have a2 := Int.ediv_le_self t h0
  have a3 := Int.emod_nonneg m (by omega : t ≠ 0)
  have a4 : m % t ≤ m := by
    have := Int.mul_ediv_add_emod m t
    have h5 : 0 ≤ t * (m / t) := Int.mul_nonneg (by omega) a1
    omega
  omega

theorem tfFrom_hit (f : Nat) (top bottom a : Int) (h1 : a * bottom % top = 0) (h2 : 6 ≤ a * bottom / top) (h3 : a * bottom / top ≤ 240) : tfFrom (f + 1) top bottom a = ([a, a * bottom / top], true) := by
  simp [tfFrom, h1, h2, h3]

theorem tfFrom_miss (f : Nat) (top bottom a : Int) (h : ¬ (a * bottom % top = 0 ∧ 6 ≤ a * bottom / top ∧ a * bottom / top ≤ 240)) : tfFrom (f + 1) top bottom a = tfFrom f top bottom (a + 1) := by
  simp only [tfFrom, if_neg h]

theorem tf_within_t (n lo hi : Int) (w : World) (h1 : lo ≤ n) (h2 : n ≤ hi) :
    Calls Tryd.prog 39 #[.int .i64 n, .int .i64 lo, .int .i64 hi] w fun e w' => e = .returned (.bool true) ∧ w = w' := by
  go_enter Tryd.func39, Tryd.ntmps39
  go_wp2
  go_ret
  exact ⟨rfl, rfl⟩

theorem tf_within_f (n lo hi : Int) (w : World) (h : ¬ (lo ≤ n ∧ n ≤ hi)) :
    Calls Tryd.prog 39 #[.int .i64 n, .int .i64 lo, .int .i64 hi] w fun e w' => e = .returned (.bool false) ∧ w = w' := by
  by_cases h1 : lo ≤ n
  · have h2 : ¬ n ≤ hi := fun h2 => h ⟨h1, h2⟩
    clear h
    go_enter Tryd.func39, Tryd.ntmps39
    go_wp2
    go_ret
    exact ⟨by simp, rfl⟩
  · clear h
    go_enter Tryd.func39, Tryd.ntmps39
    go_wp2
    go_ret
    exact ⟨rfl, rfl⟩

theorem tf_l6In_t (n lo hi : Int) (w : World) (h1 : lo ≤ n) (h2 : n ≤ hi) :
    Calls Tryd.prog 36 #[.int .i64 n, .int .i64 lo, .int .i64 hi] w fun e w' => e = .returned (.bool true) ∧ w = w' := by
  go_enter Tryd.func36, Tryd.ntmps36
  go_wp2
  go_ret
  exact ⟨rfl, rfl⟩

theorem tf_l6In_f (n lo hi : Int) (w : World) (h : ¬ (lo ≤ n ∧ n ≤ hi)) :
    Calls Tryd.prog 36 #[.int .i64 n, .int .i64 lo, .int .i64 hi] w fun e w' => e = .returned (.bool false) ∧ w = w' := by
  by_cases h1 : lo ≤ n
  · have h2 : ¬ n ≤ hi := fun h2 => h ⟨h1, h2⟩
    clear h
    go_enter Tryd.func36, Tryd.ntmps36
    go_wp2
    go_ret
    exact ⟨by simp, rfl⟩
  · clear h
    go_enter Tryd.func36, Tryd.ntmps36
    go_wp2
    go_ret
    exact ⟨rfl, rfl⟩

theorem tf_gear_t (n : Int) (w : World) (h1 : 6 ≤ n) (h2 : n ≤ 240) :
    Calls Tryd.prog 40 #[.int .i64 n] w fun e w' => e = .returned .nilIface ∧ w = w' := by
  go_enter Tryd.func40, Tryd.ntmps40
  go_wp2_with (go_at_call 39; refine (tf_within_t _ _ _ _ (by omega) (by omega)).mono ?_; rintro e w' ⟨rfl, rfl⟩)
  go_ret
  exact ⟨rfl, rfl⟩

theorem tf_gear_f (n : Int) (w : World) (h : ¬ (6 ≤ n ∧ n ≤ 240)) :
    Calls Tryd.prog 40 #[.int .i64 n] w fun e w' => (∃ p, e = .returned (.iface 57 (.pointer (some p)))) ∧ Below w.heap.size w w' := by
  have H : Hid _ := h
  clear h
  go_enter Tryd.func40, Tryd.ntmps40
  go_wp2_with (go_at_call 39; refine (tf_within_f _ _ _ _ H.out).mono ?_; rintro e w' ⟨rfl, rfl⟩)
  go_ret
  exact ⟨⟨_, rfl⟩, (Below.refl _ _).alloc (Nat.le_refl _) _⟩

set_option maxHeartbeats 800000 in
theorem implFind (top bottom : Int) (w : World) :
    Calls Tryd.prog 25 #[.int .i64 top, .int .i64 bottom] w (TfPost (tfAll top bottom) w) := by
  by_cases hin : 1 ≤ top ∧ top ≤ 1000 ∧ 1 ≤ bottom ∧ bottom ≤ 1000
  · rw [tfAll, if_pos hin]
    obtain ⟨t1, t2, b1, b2⟩ := hin
    go_enter Tryd.func25, Tryd.ntmps25
    go_wp2_with (go_at_call 39; refine (tf_within_t _ _ _ _ (by omega) (by omega)).mono ?_; rintro e w' ⟨rfl, rfl⟩)
    go_loopw [6] (fun i wr => ∃ t : Nat, t ≤ 235 ∧ i = .int .i64 (6 + t) ∧ Below w.heap.size w wr ∧ tfFrom 235 top bottom 6 = tfFrom (235 - t) top bottom (6 + t)) (fun i _ => 241 - (intOf i).toNat)
    case atStart => exact ⟨0, by omega, rfl, Below.refl _ _, rfl⟩
    case round =>
      obtain ⟨t, ht, rfl, hb, htf⟩ := hrel
      have Htf : Hid _ := htf
      clear htf
      by_cases hlt : t < 235
      · have hm := tf_mul_bounds (6 + t) bottom (by omega) (by omega) b1 b2
        have hd := tf_div_bounds ((6 + t) * bottom) top hm.1 hm.2 t1
        obtain ⟨hm1, hm2⟩ := hm
        obtain ⟨hd1, hd2, hd3, hd4⟩ := hd
        have hs : 235 - t = (234 - t) + 1 := by omega
        have Hm := fun h => Htf.out.trans ((congrArg (fun f => tfFrom f top bottom (6 + t)) hs).trans (tfFrom_miss _ top bottom _ h))
        have Hh := fun h1 h2 h3 => Htf.out.trans ((congrArg (fun f => tfFrom f top bottom (6 + t)) hs).trans (tfFrom_hit _ top bottom _ h1 h2 h3))
        have HM : Hid _ := Hm
        have HH : Hid _ := Hh
        clear Hm Hh hs
        by_cases hg : 6 ≤ (6 + t) * bottom / top ∧ (6 + t) * bottom / top ≤ 240
        · have Hg : Hid _ := hg
          clear hg
          go_wp2_with (go_at_call 40; refine (tf_gear_t _ _ Hg.out.1 Hg.out.2).mono ?_; rintro e w' ⟨rfl, rfl⟩)
          · go_ret2
            rw [HH.out (by assumption) Hg.out.1 Hg.out.2]
            refine ⟨_, rfl, ?_, hb.alloc hb.size _⟩
            exact owns_base (by simpa using World.ownsRow_lit (base := wr.heap.size) (e := 3) (size := 1) wr #[.int .i64 (6 + t), .int .i64 ((6 + t) * bottom / top)] 2 (Nat.le_refl _) (by decide) (by simp)) hb.size
          · go_roundw
            case rel => exact ⟨t + 1, by omega, by go_num, hb, by rw [HM.out (fun h => by have := h.1; contradiction)]; congr 1 <;> omega⟩
            case measure => simp [intOf]; omega
        · have Hg : Hid _ := hg
          clear hg
          go_wp2_with (go_at_call 40; refine (tf_gear_f _ _ Hg.out).mono ?_; rintro e w' ⟨⟨p, rfl⟩, hb2⟩)
          · have hb2 := ‹Below wr.heap.size wr _›
            go_roundw
            case rel => exact ⟨t + 1, by omega, by go_num, kept_trans hb hb2, by rw [HM.out (fun h => Hg.out h.2)]; congr 1 <;> omega⟩
            case measure => simp [intOf]; omega
          · go_roundw
            case rel => exact ⟨t + 1, by omega, by go_num, hb, by rw [HM.out (fun h => Hg.out h.2)]; congr 1 <;> omega⟩
            case measure => simp [intOf]; omega
      · obtain rfl : t = 235 := by omega
        go_wp2
        go_ret2
        rw [Htf.out]
        exact ⟨_, rfl, World.ownsRow_nil _ _ _ _, hb⟩
  · rw [tfAll, if_neg hin]
    have H : Hid _ := hin
    clear hin
    by_cases h1 : 1 ≤ top ∧ top ≤ 1000
    · have H1 : Hid _ := h1
      have H2 : Hid (¬ (1 ≤ bottom ∧ bottom ≤ 1000)) := fun h => H.out ⟨h1.1, h1.2, h.1, h.2⟩
      clear h1
      go_enter Tryd.func25, Tryd.ntmps25
      go_wp2_with fail
      refine (tf_within_t _ _ _ _ H1.out.1 H1.out.2).mono ?_; rintro e w' ⟨rfl, rfl⟩
      go_wp2_with fail
      refine (tf_within_f _ _ _ _ H2.out).mono ?_; rintro e w' ⟨rfl, rfl⟩
      go_wp2_with fail
      go_ret2
      exact tfPost_nil w
    · have H1 : Hid _ := h1
      clear h1
      go_enter Tryd.func25, Tryd.ntmps25
      go_wp2_with (go_at_call 39; refine (tf_within_f _ _ _ _ H1.out).mono ?_; rintro e w' ⟨rfl, rfl⟩)
      go_ret2
      exact tfPost_nil w

theorem tf_l9Gear_t (n : Int) (w : World) (h1 : 6 ≤ n) (h2 : n ≤ 240) :
    Calls Tryd.prog 30 #[.int .i64 n] w fun e w' => e = .returned (.bool true) ∧ w = w' := by
  go_enter Tryd.func30, Tryd.ntmps30
  go_wp2_with (go_at_call 36; refine (tf_l6In_t _ _ _ _ (by omega) (by omega)).mono ?_; rintro e w' ⟨rfl, rfl⟩)
  go_ret
  exact ⟨rfl, rfl⟩

theorem tf_l9Gear_f (n : Int) (w : World) (h : ¬ (6 ≤ n ∧ n ≤ 240)) :
    Calls Tryd.prog 30 #[.int .i64 n] w fun e w' => e = .returned (.bool false) ∧ w = w' := by
  have H : Hid _ := h
  clear h
  go_enter Tryd.func30, Tryd.ntmps30
  go_wp2_with (go_at_call 36; refine (tf_l6In_f _ _ _ _ H.out).mono ?_; rintro e w' ⟨rfl, rfl⟩)
  go_ret
  exact ⟨rfl, rfl⟩

set_option maxHeartbeats 800000 in
theorem specFind (top bottom : Int) (w : World) :
    Calls Tryd.prog 26 #[.int .i64 top, .int .i64 bottom] w (TfPost (tfAll top bottom) w) := by
  by_cases hin : 1 ≤ top ∧ top ≤ 1000 ∧ 1 ≤ bottom ∧ bottom ≤ 1000
  · rw [tfAll, if_pos hin]
    obtain ⟨t1, t2, b1, b2⟩ := hin
    go_enter Tryd.func26, Tryd.ntmps26
    go_wp2_with (go_at_call 36; refine (tf_l6In_t _ _ _ _ (by omega) (by omega)).mono ?_; rintro e w' ⟨rfl, rfl⟩)
    go_loopw [6] (fun i wr => ∃ t : Nat, t ≤ 235 ∧ i = .int .i64 (6 + t) ∧ Below w.heap.size w wr ∧ tfFrom 235 top bottom 6 = tfFrom (235 - t) top bottom (6 + t)) (fun i _ => 241 - (intOf i).toNat)
    case atStart => exact ⟨0, by omega, rfl, Below.refl _ _, rfl⟩
    case round =>
      obtain ⟨t, ht, rfl, hb, htf⟩ := hrel
      have Htf : Hid _ := htf
      clear htf
      by_cases hlt : t < 235
      · have hm := tf_mul_bounds (6 + t) bottom (by omega) (by omega) b1 b2
        have hd := tf_div_bounds ((6 + t) * bottom) top hm.1 hm.2 t1
        obtain ⟨hm1, hm2⟩ := hm
        obtain ⟨hd1, hd2, hd3, hd4⟩ := hd
        have hs : 235 - t = (234 - t) + 1 := by omega
        have Hm := fun h => Htf.out.trans ((congrArg (fun f => tfFrom f top bottom (6 + t)) hs).trans (tfFrom_miss _ top bottom _ h))
        have Hh := fun h1 h2 h3 => Htf.out.trans ((congrArg (fun f => tfFrom f top bottom (6 + t)) hs).trans (tfFrom_hit _ top bottom _ h1 h2 h3))
        have HM : Hid _ := Hm
        have HH : Hid _ := Hh
        clear Hm Hh hs
        by_cases hg : 6 ≤ (6 + t) * bottom / top ∧ (6 + t) * bottom / top ≤ 240
        · have Hg : Hid _ := hg
          clear hg
          by_cases h0 : (6 + t) * bottom % top = 0
          · go_wp2_with (go_at_call 30; refine (tf_l9Gear_t _ _ Hg.out.1 Hg.out.2).mono ?_; rintro e w' ⟨rfl, rfl⟩)
            go_ret2
            rw [HH.out h0 Hg.out.1 Hg.out.2]
            refine ⟨_, rfl, ?_, hb.alloc hb.size _⟩
            exact owns_base (by simpa using World.ownsRow_lit (base := wr.heap.size) (e := 3) (size := 1) wr #[.int .i64 (6 + t), .int .i64 ((6 + t) * bottom / top)] 2 (Nat.le_refl _) (by decide) (by simp)) hb.size
          · go_wp2_with fail
            go_roundw
            case rel => exact ⟨t + 1, by omega, by go_num, hb, by rw [HM.out (fun h => h0 h.1)]; congr 1 <;> omega⟩
            case measure => simp [intOf]; omega
        · have Hg : Hid _ := hg
          clear hg
          go_wp2_with (go_at_call 30; refine (tf_l9Gear_f _ _ Hg.out).mono ?_; rintro e w' ⟨rfl, rfl⟩)
          all_goals
            go_roundw
            case rel => exact ⟨t + 1, by omega, by go_num, hb, by rw [HM.out (fun h => Hg.out h.2)]; congr 1 <;> omega⟩
            case measure => simp [intOf]; omega
      · obtain rfl : t = 235 := by omega
        have e0 : tfFrom (235 - 235) top bottom (6 + (235 : Nat)) = ([], false) := rfl
        have E0 : Hid _ := Htf.out.trans e0
        clear e0
        go_wp2
        go_ret2
        rw [E0.out]
        refine ⟨_, rfl, ?_, hb.alloc hb.size _⟩
        exact owns_base (by simpa using World.ownsRow_lit (base := wr.heap.size) (e := 3) (size := 1) wr #[] 0 (Nat.le_refl _) (by decide) (by simp)) hb.size
  · rw [tfAll, if_neg hin]
    have H : Hid _ := hin
    clear hin
    by_cases h1 : 1 ≤ top ∧ top ≤ 1000
    · have H1 : Hid _ := h1
      have H2 : Hid (¬ (1 ≤ bottom ∧ bottom ≤ 1000)) := fun h => H.out ⟨h1.1, h1.2, h.1, h.2⟩
      clear h1
      go_enter Tryd.func26, Tryd.ntmps26
      go_wp2_with fail
      refine (tf_l6In_t _ _ _ _ H1.out.1 H1.out.2).mono ?_; rintro e w' ⟨rfl, rfl⟩
      go_wp2_with fail
      refine (tf_l6In_f _ _ _ _ H2.out).mono ?_; rintro e w' ⟨rfl, rfl⟩
      go_wp2_with fail
      go_ret2
      exact tfPost_empty w
    · have H1 : Hid _ := h1
      clear h1
      go_enter Tryd.func26, Tryd.ntmps26
      go_wp2_with (go_at_call 36; refine (tf_l6In_f _ _ _ _ H1.out).mono ?_; rintro e w' ⟨rfl, rfl⟩)
      go_ret2
      exact tfPost_empty w
end Go.Proofs.YtiiocjkhjogfkaaDoor
