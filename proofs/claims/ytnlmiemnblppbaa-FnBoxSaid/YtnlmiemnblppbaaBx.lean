/-
  The box of a path, by the program and by the reference.
-/
import Derived.Test.YtnlmiemnblppbaaPc
import Derived.Test.YtnlmiemnblppbaaFr
import Derived.Test.YtnlmiemnblppbaaReg
import Derived.Test.YtnlmiemnblppbaaMw
import Derived.BigRegion
import Derived.Deep.QuietTactic
import Derived.Deep.DeepCutAuto
namespace Go.Proofs.Ytnlmiemnblppbaa
open Go.RowKit

/-- The first word unless the second one is less; .. unless it is greater. -/
def lessW (a b : Nat) : Nat := if (FloatKind.f32.format.order b a == some Ordering.lt) = true then b else a
def moreW (a b : Nat) : Nat := if (FloatKind.f32.format.order b a == some Ordering.gt) = true then b else a

theorem l10Less_any (a b : Nat) (w : World) : Calls Try.prog 71 #[.float .f32 a, .float .f32 b] w fun e w' => e = .returned (.float .f32 (lessW a b)) ∧ w = w' := by
  unfold lessW
  cases h : (FloatKind.f32.format.order b a == some Ordering.lt)
  all_goals
    go_enter Try.func71, Try.ntmps71
    go_wp2_with fail
    go_ret
    exact ⟨rfl, rfl⟩

theorem l10More_any (a b : Nat) (w : World) : Calls Try.prog 67 #[.float .f32 a, .float .f32 b] w fun e w' => e = .returned (.float .f32 (moreW a b)) ∧ w = w' := by
  unfold moreW
  cases h : (FloatKind.f32.format.order b a == some Ordering.gt)
  all_goals
    go_enter Try.func67, Try.ntmps67
    go_wp2_with fail
    go_ret
    exact ⟨rfl, rfl⟩

theorem less_ok (a b : Nat) (w : World) : Calls Try.prog 68 #[.float .f32 a, .float .f32 b] w fun e w' => e = .returned (.bool (FloatKind.f32.format.order a b == some Ordering.lt)) ∧ w = w' := by
  go_enter Try.func68, Try.ntmps68
  go_wp2_with fail
  go_ret
  exact ⟨rfl, rfl⟩

theorem more_ok (a b : Nat) (w : World) : Calls Try.prog 69 #[.float .f32 a, .float .f32 b] w fun e w' => e = .returned (.bool (FloatKind.f32.format.order a b == some Ordering.gt)) ∧ w = w' := by
  go_enter Try.func69, Try.ntmps69
  go_wp2_with fail
  go_ret
  exact ⟨rfl, rfl⟩

/-- The best of the first words, as one goes from word to word. -/
def bestN (op : Nat → Nat → Nat) (ps : List Nat) : Nat → Nat
  | 0 => ps.getD 0 0
  | t + 1 => op (bestN op ps t) (ps.getD t 0)

def flCells (ps : List Nat) : List Value := ps.map fun p => .float .f32 p
theorem flCells_len (ps : List Nat) : (flCells ps).length = ps.length := by simp [flCells]
theorem flCells_get (ps : List Nat) (t : Nat) (h : t < ps.length) : (flCells ps)[t]? = some (.float .f32 (ps.getD t 0)) := by simp [flCells, h]

set_option maxHeartbeats 1000000 in
theorem exLess_ok (v : Value) (ps : List Nat) (w : World) (hr : Reads w 1 v ps.length (flCells ps)) (hn : 0 < ps.length) :
    Calls Try.prog 70 #[.func (.func 68) #[] #[], v] w fun e w' => e = .returned (.float .f32 (bestN lessW ps ps.length)) ∧ w = w' := by
  obtain ⟨-, hm, A, c, rfl, hc⟩ := hr
  obtain ⟨b, o, rfl, _, hcell⟩ := hc hn (by omega)
  clear hc
  obtain ⟨p0, hp0⟩ : ∃ p0, bestN lessW ps 0 = p0 := ⟨_, rfl⟩
  have h0 : w.cell? ⟨b, o, none⟩ = some (.float .f32 p0) := by rw [← hp0]; exact (hcell 0 (by omega)).trans (flCells_get ps 0 hn)
  have Hp0 := hide hp0
  clear hp0
  have hn2 : (0 : Int) < (ps.length : Int) := by omega
  have Hcell := hide hcell
  clear hcell
  go_enter Try.func70, Try.ntmps70
  go_wp2_with fail
  go_loop [5, 13] (fun u i => ∃ t : Nat, t ≤ ps.length ∧ i = .int .i64 t ∧ u = .float .f32 (bestN lessW ps t)) (fun _ i => ps.length - (intOf i).toNat)
  case atStart => exact ⟨0, by omega, rfl, by rw [Hp0.out]⟩
  case round =>
    obtain ⟨t, ht, rfl, rfl⟩ := hrel
    clear h0 hn2
    by_cases hlt : t < ps.length
    · have h1 := (Hcell.out t (by omega)).trans (flCells_get ps t hlt)
      have Hs : Hid (bestN lessW ps (t + 1) = if (FloatKind.f32.format.order (ps.getD t 0) (bestN lessW ps t) == some Ordering.lt) = true then ps.getD t 0 else bestN lessW ps t) := rfl
      have hx := fun w => less_ok (ps.getD t 0) (bestN lessW ps t) w
      clear Hcell
      generalize ps.getD t 0 = x at *
      generalize bestN lessW ps t = y at *
      generalize (FloatKind.f32.format.order x y == some Ordering.lt) = q at *
      have Hx := hide hx
      clear hx
      cases q
      · go_wp2_with fail
        refine (Hx.out _).mono ?_
        rintro e w1 ⟨rfl, rfl⟩
        go_wp2_with fail
        go_round
        case rel => exact ⟨t + 1, by omega, by go_num, by rw [Hs.out]; rfl⟩
        case measure => simp [intOf]; omega
      · go_wp2_with fail
        refine (Hx.out _).mono ?_
        rintro e w1 ⟨rfl, rfl⟩
        go_wp2_with fail
        go_round
        case rel => exact ⟨t + 1, by omega, by go_num, by rw [Hs.out]; rfl⟩
        case measure => simp [intOf]; omega
    · obtain rfl : t = ps.length := by omega
      go_wp2_with fail
      go_ret
      exact ⟨rfl, rfl⟩

set_option maxHeartbeats 1000000 in
theorem exMore_ok (v : Value) (ps : List Nat) (w : World) (hr : Reads w 1 v ps.length (flCells ps)) (hn : 0 < ps.length) :
    Calls Try.prog 70 #[.func (.func 69) #[] #[], v] w fun e w' => e = .returned (.float .f32 (bestN moreW ps ps.length)) ∧ w = w' := by
  obtain ⟨-, hm, A, c, rfl, hc⟩ := hr
  obtain ⟨b, o, rfl, _, hcell⟩ := hc hn (by omega)
  clear hc
  obtain ⟨p0, hp0⟩ : ∃ p0, bestN moreW ps 0 = p0 := ⟨_, rfl⟩
  have h0 : w.cell? ⟨b, o, none⟩ = some (.float .f32 p0) := by rw [← hp0]; exact (hcell 0 (by omega)).trans (flCells_get ps 0 hn)
  have Hp0 := hide hp0
  clear hp0
  have hn2 : (0 : Int) < (ps.length : Int) := by omega
  have Hcell := hide hcell
  clear hcell
  go_enter Try.func70, Try.ntmps70
  go_wp2_with fail
  go_loop [5, 13] (fun u i => ∃ t : Nat, t ≤ ps.length ∧ i = .int .i64 t ∧ u = .float .f32 (bestN moreW ps t)) (fun _ i => ps.length - (intOf i).toNat)
  case atStart => exact ⟨0, by omega, rfl, by rw [Hp0.out]⟩
  case round =>
    obtain ⟨t, ht, rfl, rfl⟩ := hrel
    clear h0 hn2
    by_cases hlt : t < ps.length
    · have h1 := (Hcell.out t (by omega)).trans (flCells_get ps t hlt)
      have Hs : Hid (bestN moreW ps (t + 1) = if (FloatKind.f32.format.order (ps.getD t 0) (bestN moreW ps t) == some Ordering.gt) = true then ps.getD t 0 else bestN moreW ps t) := rfl
      have hx := fun w => more_ok (ps.getD t 0) (bestN moreW ps t) w
      clear Hcell
      generalize ps.getD t 0 = x at *
      generalize bestN moreW ps t = y at *
      generalize (FloatKind.f32.format.order x y == some Ordering.gt) = q at *
      have Hx := hide hx
      clear hx
      cases q
      · go_wp2_with fail
        refine (Hx.out _).mono ?_
        rintro e w1 ⟨rfl, rfl⟩
        go_wp2_with fail
        go_round
        case rel => exact ⟨t + 1, by omega, by go_num, by rw [Hs.out]; rfl⟩
        case measure => simp [intOf]; omega
      · go_wp2_with fail
        refine (Hx.out _).mono ?_
        rintro e w1 ⟨rfl, rfl⟩
        go_wp2_with fail
        go_round
        case rel => exact ⟨t + 1, by omega, by go_num, by rw [Hs.out]; rfl⟩
        case measure => simp [intOf]; omega
    · obtain rfl : t = ps.length := by omega
      go_wp2_with fail
      go_ret
      exact ⟨rfl, rfl⟩

def xsZ (zs : List (Nat × Nat)) : List Nat := zs.map Prod.fst
def ysZ (zs : List (Nat × Nat)) : List Nat := zs.map Prod.snd
theorem xsZ_len (zs : List (Nat × Nat)) : (xsZ zs).length = zs.length := by simp [xsZ]
theorem ysZ_len (zs : List (Nat × Nat)) : (ysZ zs).length = zs.length := by simp [ysZ]
theorem xsZ_at (zs : List (Nat × Nat)) (t : Nat) (h : t < zs.length) : (xsZ zs).getD t 0 = (zs[t]).1 := by
  rw [List.getD_eq_getElem?_getD]
  simp [xsZ, h]
theorem ysZ_at (zs : List (Nat × Nat)) (t : Nat) (h : t < zs.length) : (ysZ zs).getD t 0 = (zs[t]).2 := by
  rw [List.getD_eq_getElem?_getD]
  simp [ysZ, h]

theorem less_one (ps : List Nat) : bestN lessW ps 1 = ps.getD 0 0 := by
  show lessW (ps.getD 0 0) (ps.getD 0 0) = _
  unfold lessW
  split <;> rfl
theorem more_one (ps : List Nat) : bestN moreW ps 1 = ps.getD 0 0 := by
  show moreW (ps.getD 0 0) (ps.getD 0 0) = _
  unfold moreW
  split <;> rfl

/-- The least and the greatest parts of the first points. -/
def lowZ (zs : List (Nat × Nat)) (t : Nat) : Value := .complex .f32 (bestN lessW (xsZ zs) t) (bestN lessW (ysZ zs) t)
def highZ (zs : List (Nat × Nat)) (t : Nat) : Value := .complex .f32 (bestN moreW (xsZ zs) t) (bestN moreW (ysZ zs) t)

theorem lowZ_one (zs : List (Nat × Nat)) (h : 0 < zs.length) : lowZ zs 1 = .complex .f32 (zs[0]).1 (zs[0]).2 := by
  unfold lowZ
  rw [less_one, less_one, xsZ_at zs 0 h, ysZ_at zs 0 h]
theorem highZ_one (zs : List (Nat × Nat)) (h : 0 < zs.length) : highZ zs 1 = .complex .f32 (zs[0]).1 (zs[0]).2 := by
  unfold highZ
  rw [more_one, more_one, xsZ_at zs 0 h, ysZ_at zs 0 h]
theorem lowZ_succ (zs : List (Nat × Nat)) (t : Nat) (h : t < zs.length) : lowZ zs (t + 1) = .complex .f32 (lessW (bestN lessW (xsZ zs) t) (zs[t]).1) (lessW (bestN lessW (ysZ zs) t) (zs[t]).2) := by
  rw [← xsZ_at zs t h, ← ysZ_at zs t h]
  rfl
theorem highZ_succ (zs : List (Nat × Nat)) (t : Nat) (h : t < zs.length) : highZ zs (t + 1) = .complex .f32 (moreW (bestN moreW (xsZ zs) t) (zs[t]).1) (moreW (bestN moreW (ysZ zs) t) (zs[t]).2) := by
  rw [← xsZ_at zs t h, ← ysZ_at zs t h]
  rfl

set_option maxRecDepth 100000 in
set_option maxHeartbeats 4000000 in
theorem specBox_ok (v : Value) (zs : List (Nat × Nat)) (w : World) (hr : Reads w 1 v zs.length (cCells zs)) (hp : pathOk zs = true) (hn : 0 < zs.length) :
    Calls Try.prog 37 #[v] w fun e w' => e = .returned (.tuple #[lowZ zs zs.length, highZ zs zs.length, .bool true]) ∧ Below w.heap.size w w' := by
  have hi := specPath_ok v zs w hr
  rw [hp] at hi
  have Hpv := hide hi
  obtain ⟨-, hm, A, c, rfl, hc⟩ := hr
  obtain ⟨b, o, rfl, hbl, hcell⟩ := hc hn (by omega)
  have h0 : w.cell? ⟨b, o, none⟩ = some (.complex .f32 (zs[0]).1 (zs[0]).2) := (hcell 0 (by omega)).trans (cCells_get zs 0 hn)
  have Hl1 := hide (lowZ_one zs hn)
  have Hh1 := hide (highZ_one zs hn)
  have hn2 : (0 : Int) < (zs.length : Int) := by omega
  have Hcell := hide hcell
  clear hi hc hcell hp
  generalize zs[0] = z0 at *
  obtain ⟨x0, y0⟩ := z0
  dsimp only at h0 Hl1 Hh1
  go_enter Try.func37, Try.ntmps37
  go_wp2_with fail
  refine Hpv.out.mono ?_
  rintro e w1 ⟨rfl, rfl⟩
  go_wp2_with fail
  go_loopw [5, 6, 7] (fun u q i wr => ∃ t m : Nat, 1 ≤ t ∧ t ≤ zs.length ∧ i = .int .i64 t ∧ u = lowZ zs t ∧ q = highZ zs t ∧ wr = w.drewN m) (fun _ _ i _ => zs.length - (intOf i).toNat)
  case atStart => exact ⟨1, 0, by omega, by omega, rfl, by rw [Hl1.out], by rw [Hh1.out], rfl⟩
  case round =>
    obtain ⟨t, m, ht1, ht, rfl, rfl, rfl, rfl⟩ := hrel
    clear h0 hn2
    by_cases hlt : t < zs.length
    · have h1 := (Hcell.out t (by omega)).trans (cCells_get zs t hlt)
      have Hls := hide (lowZ_succ zs t hlt)
      have Hhs := hide (highZ_succ zs t hlt)
      clear Hcell
      unfold lowZ highZ
      have q3 : (0 : Int) ≤ (t : Int) := by omega
      have q4 : (t : Int) < (zs.length : Int) := by omega
      have e1 : lowZ zs (t + 1) = lowZ zs (t + 1) := rfl
      unfold lowZ at Hls
      unfold highZ at Hhs
      clear e1
      generalize zs[t] = z at *
      obtain ⟨x, y⟩ := z
      dsimp only at h1 Hls Hhs
      generalize bestN lessW (xsZ zs) t = a1 at *
      generalize bestN lessW (ysZ zs) t = a2 at *
      generalize bestN moreW (xsZ zs) t = b1 at *
      generalize bestN moreW (ysZ zs) t = b2 at *
      go_wp2_with fail
      go_quiet ((go_at_call 71; exact quietC (l10Less_any _ _ _)))
      go_wp2_with fail
      go_quiet ((go_at_call 67; exact quietC (l10More_any _ _ _)))
      go_wp2_with fail
      go_roundw
      case rel => exact ⟨t + 1, _, by omega, by omega, by go_num, by rw [Hls.out], by rw [Hhs.out], rfl⟩
      case measure => simp [intOf]; omega
    · obtain rfl : t = zs.length := by omega
      go_wp2_with fail
      refine bodyPost_ret (v := .tuple #[lowZ zs zs.length, highZ zs zs.length, .bool true]) (by simp [results, Try.results37, go_sem]) rfl ⟨rfl, kept_drewN _ _⟩

/-- A make in a region that draws its order. -/
theorem opH_make {P : Program} {ops : Array Oper} {Q : Exit → Act → World → Prop} {i : Nat} {o : Oper} {K : Act → World → Prop} {a : Act} {w : World} (hi : ops[i]? = some o) (hwt : Region.wanted o (yielded ops a.tmps) = true)
    (l c : Operand) (t : TypeId) (hop : o.op = Op.makeSlice t l c)
    (base : Nat) (e : TypeId) (ti : TypeInfo) (z : Value) (size : Nat) (h1 : P.underlying t = some (.slice e)) (h2 : P.info? e = some ti) (h3 : ti.zero = some z) (h4 : ti.size = size)
    (kl kc : IntKind) (n : Nat) (hl : a.eval l = .int kl 0) (hc : a.eval c = .int kc (n : Int)) (b2 : ti.bytes * n ≤ 281474976710656) (b3 : n ≤ maxLen) (b4 : base ≤ w.heap.size)
    (hK : ∀ w', w'.ownsRow base e size (.slice (some ⟨w.heap.size, 0, none⟩) 0 n) 0 [] → w.grownBy w' none → w.heap.size < w'.heap.size → K (a.put o.dst (.slice (some ⟨w.heap.size, 0, none⟩) 0 n)) w') : wpOp P ops Q i K a w := by
  obtain ⟨w', hrun, r1, r2⟩ := run_make_own (P := P) w base t e ti z size h1 h2 h3 h4 kl kc n b2 b3 b4
  refine opH_run (v := .slice (some ⟨w.heap.size, 0, none⟩) 0 n) (w' := w') hi hwt ?_ (hK w' r1 r2 (r1.lt _ rfl).2)
  simp [execOp, hop, hl, hc, hrun, Result.andThen]

theorem Try.infoFl : (Try.prog.info? 55).map (fun i => (i.zero, i.size, i.bytes)) = some (some (.float .f32 0), 1, 4) := by kernel_rfl

theorem flCells_snoc (ps : List Nat) (t : Nat) (h : t < ps.length) : flCells (ps.take (t + 1)) = flCells (ps.take t) ++ [.float .f32 (ps.getD t 0)] := by
  rw [List.take_succ_eq_append_getElem h]
  unfold flCells
  rw [List.map_append, List.getD_eq_getElem?_getD, List.getElem?_eq_getElem h]
  rfl

set_option maxRecDepth 100000 in
set_option maxHeartbeats 4000000 in
theorem implBox_ok (v : Value) (zs : List (Nat × Nat)) (w : World) (hr : Reads w 1 v zs.length (cCells zs)) (hp : pathOk zs = true) (hn : 0 < zs.length) (hn24 : zs.length ≤ 1000) :
    Calls Try.prog 36 #[v] w fun e w' => e = .returned (.tuple #[lowZ zs zs.length, highZ zs zs.length, .bool true]) ∧ Below w.heap.size w w' := by
  obtain ⟨i0, hi0, hz0, hz1, hz2⟩ := info_parts Try.infoFl
  have hi := implPath_ok v zs w hr
  rw [hp] at hi
  have Hpv := hide hi
  obtain ⟨-, hm, A, c, rfl, hc⟩ := hr
  obtain ⟨b, o, rfl, hbl, hcell⟩ := hc hn (by omega)
  have Hcell := hide hcell
  clear hi hc hcell hp
  obtain ⟨a1, ha1⟩ : ∃ a1, bestN lessW (xsZ zs) zs.length = a1 := ⟨_, rfl⟩
  have HLx : Hid (∀ v w, Reads w 1 v zs.length (flCells (xsZ zs)) → Calls Try.prog 70 #[.func (.func 68) #[] #[], v] w fun e w' => e = .returned (.float .f32 a1) ∧ w = w') := by
    intro v w hr
    have := exLess_ok v (xsZ zs) w
    rw [xsZ_len, ha1] at this
    exact this hr hn
  obtain ⟨a2, ha2⟩ : ∃ a2, bestN lessW (ysZ zs) zs.length = a2 := ⟨_, rfl⟩
  have HLy : Hid (∀ v w, Reads w 1 v zs.length (flCells (ysZ zs)) → Calls Try.prog 70 #[.func (.func 68) #[] #[], v] w fun e w' => e = .returned (.float .f32 a2) ∧ w = w') := by
    intro v w hr
    have := exLess_ok v (ysZ zs) w
    rw [ysZ_len, ha2] at this
    exact this hr hn
  obtain ⟨b1, hb1⟩ : ∃ b1, bestN moreW (xsZ zs) zs.length = b1 := ⟨_, rfl⟩
  have HMx : Hid (∀ v w, Reads w 1 v zs.length (flCells (xsZ zs)) → Calls Try.prog 70 #[.func (.func 69) #[] #[], v] w fun e w' => e = .returned (.float .f32 b1) ∧ w = w') := by
    intro v w hr
    have := exMore_ok v (xsZ zs) w
    rw [xsZ_len, hb1] at this
    exact this hr hn
  obtain ⟨b2, hb2⟩ : ∃ b2, bestN moreW (ysZ zs) zs.length = b2 := ⟨_, rfl⟩
  have HMy : Hid (∀ v w, Reads w 1 v zs.length (flCells (ysZ zs)) → Calls Try.prog 70 #[.func (.func 69) #[] #[], v] w fun e w' => e = .returned (.float .f32 b2) ∧ w = w') := by
    intro v w hr
    have := exMore_ok v (ysZ zs) w
    rw [ysZ_len, hb2] at this
    exact this hr hn
  unfold lowZ highZ
  rw [ha1, ha2, hb1, hb2]
  clear ha1 ha2 hb1 hb2
  go_enter Try.func36, Try.ntmps36
  go_wp2_with fail
  refine Hpv.out.mono ?_
  rintro e w1 ⟨rfl, rfl⟩
  go_upto_region 3 with fail
  go_cut [5, 6] (fun u q wx => ∃ g h : Nat, u = .slice (some ⟨g, 0, none⟩) 0 zs.length ∧ q = .slice (some ⟨h, 0, none⟩) 0 zs.length ∧ g ≠ h ∧ wx.ownsRow w.heap.size 55 1 (.slice (some ⟨g, 0, none⟩) 0 zs.length) 0 [] ∧ wx.ownsRow w.heap.size 55 1 (.slice (some ⟨h, 0, none⟩) 0 zs.length) 0 [] ∧ Below w.heap.size w wx)
  case first =>
    refine wp_region_held (S := fun _ => True) (by kernel_rfl) ?_
    change wpAnyH _ _ _ _ _ _ _ _ w.drew
    have G0 := kept_drew w
    have hs0 : w.heap.size ≤ w.drew.heap.size := G0.size
    generalize w.drew = v0 at *
    refine wpAnyH_take (i := 0) (v := .slice (some ⟨b, o, none⟩) zs.length c) rfl (by kernel_rfl) (by kernel_rfl) (by kernel_rfl) (fun _ _ _ h => h) (.inl ⟨by kernel_rfl, fun _ _ => by go_simp⟩) trivial ?_
    refine wpAnyH_take (i := 1) (v := .int .i64 zs.length) rfl (by kernel_rfl) (by kernel_rfl) (by kernel_rfl) (fun _ _ _ h => h) (.inl ⟨by kernel_rfl, fun _ _ => by go_simp⟩) trivial ?_
    refine wpAnyH_take (i := 3) (v := .slice (some ⟨b, o, none⟩) zs.length c) rfl (by kernel_rfl) (by kernel_rfl) (by kernel_rfl) (fun _ _ _ h => h) (.inl ⟨by kernel_rfl, fun _ _ => by go_simp⟩) trivial ?_
    refine wpAnyH_take (i := 4) (v := .int .i64 zs.length) rfl (by kernel_rfl) (by kernel_rfl) (by kernel_rfl) (fun _ _ _ h => h) (.inl ⟨by kernel_rfl, fun _ _ => by go_simp⟩) trivial ?_
    refine wpAnyH_all (rs := [2, 5]) (by kernel_rfl) (by simp) (List.forall_mem_cons.2 ⟨?_, List.forall_mem_cons.2 ⟨?_, List.forall_mem_nil _⟩⟩)
    · refine opH_make rfl (by kernel_rfl) _ _ 91 rfl w.heap.size 55 i0 _ 1 Try.underlying91 hi0 hz0 hz1 .i64 .i64 zs.length (by go_simp) (by go_simp) (by rw [hz2]; omega) (by unfold maxLen; omega) hs0 ?_
      intro v1 o1 g1 l1
      have G1 := kept_trans G0 (kept_of_grown g1)
      refine ⟨trivial, ?_⟩
      refine wpAnyH_take (i := 6) (v := .slice (some ⟨v0.heap.size, 0, none⟩) 0 zs.length) rfl (by kernel_rfl) (by kernel_rfl) (by kernel_rfl) (fun _ _ _ h => h) (.inl ⟨by kernel_rfl, fun _ _ => by go_simp⟩) trivial ?_
      refine wpAnyH_all (rs := [5]) (by kernel_rfl) (by simp) (List.forall_mem_cons.2 ⟨?_, List.forall_mem_nil _⟩)
      refine opH_make rfl (by kernel_rfl) _ _ 91 rfl w.heap.size 55 i0 _ 1 Try.underlying91 hi0 hz0 hz1 .i64 .i64 zs.length (by go_simp) (by go_simp) (by rw [hz2]; omega) (by unfold maxLen; omega) G1.size ?_
      intro v2 o2 g2 l2
      have G2 := kept_trans G1 (kept_of_grown g2)
      have o3 := owns_kept o1 (kept_of_grown g2)
      refine ⟨trivial, ?_⟩
      refine wpAnyH_take (i := 7) (v := .slice (some ⟨v1.heap.size, 0, none⟩) 0 zs.length) rfl (by kernel_rfl) (by kernel_rfl) (by kernel_rfl) (fun _ _ _ h => h) (.inl ⟨by kernel_rfl, fun _ _ => by go_simp⟩) trivial ?_
      refine wpAnyH_done (by kernel_rfl) ?_ _
      have hne : v0.heap.size ≠ v1.heap.size := Nat.ne_of_lt l1
      clear g1 g2 l1 l2 G0 G1
      go_wp2_with fail
      go_meet
      exact ⟨_, _, rfl, rfl, hne, o3, o2, G2⟩
    · refine opH_make rfl (by kernel_rfl) _ _ 91 rfl w.heap.size 55 i0 _ 1 Try.underlying91 hi0 hz0 hz1 .i64 .i64 zs.length (by go_simp) (by go_simp) (by rw [hz2]; omega) (by unfold maxLen; omega) hs0 ?_
      intro v1 o1 g1 l1
      have G1 := kept_trans G0 (kept_of_grown g1)
      refine ⟨trivial, ?_⟩
      refine wpAnyH_all (rs := [2]) (by kernel_rfl) (by simp) (List.forall_mem_cons.2 ⟨?_, List.forall_mem_nil _⟩)
      refine opH_make rfl (by kernel_rfl) _ _ 91 rfl w.heap.size 55 i0 _ 1 Try.underlying91 hi0 hz0 hz1 .i64 .i64 zs.length (by go_simp) (by go_simp) (by rw [hz2]; omega) (by unfold maxLen; omega) G1.size ?_
      intro v2 o2 g2 l2
      have G2 := kept_trans G1 (kept_of_grown g2)
      have o3 := owns_kept o1 (kept_of_grown g2)
      refine ⟨trivial, ?_⟩
      refine wpAnyH_take (i := 6) (v := .slice (some ⟨v1.heap.size, 0, none⟩) 0 zs.length) rfl (by kernel_rfl) (by kernel_rfl) (by kernel_rfl) (fun _ _ _ h => h) (.inl ⟨by kernel_rfl, fun _ _ => by go_simp⟩) trivial ?_
      refine wpAnyH_take (i := 7) (v := .slice (some ⟨v0.heap.size, 0, none⟩) 0 zs.length) rfl (by kernel_rfl) (by kernel_rfl) (by kernel_rfl) (fun _ _ _ h => h) (.inl ⟨by kernel_rfl, fun _ _ => by go_simp⟩) trivial ?_
      refine wpAnyH_done (by kernel_rfl) ?_ _
      have hne : v0.heap.size ≠ v1.heap.size := Nat.ne_of_lt l1
      clear g1 g2 l1 l2 G0 G1
      go_wp2_with fail
      go_meet
      exact ⟨_, _, rfl, rfl, Ne.symm hne, o2, o3, G2⟩
  case rest =>
    obtain ⟨g, h, rfl, rfl, hgh, hog, hoh, hb⟩ := hcut
    have hgB := (hog.lt _ rfl).1
    have hhB := (hoh.lt _ rfl).1
    go_wp2_with fail
    go_loopw [5, 6, 22] (fun u q i wr => ∃ t : Nat, t ≤ zs.length ∧ i = .int .i64 t ∧ u = .slice (some ⟨g, 0, none⟩) t zs.length ∧ q = .slice (some ⟨h, 0, none⟩) t zs.length ∧ wr.ownsRow w.heap.size 55 1 (.slice (some ⟨g, 0, none⟩) t zs.length) t (flCells ((xsZ zs).take t)) ∧ wr.ownsRow w.heap.size 55 1 (.slice (some ⟨h, 0, none⟩) t zs.length) t (flCells ((ysZ zs).take t)) ∧ Below w.heap.size w wr) (fun _ _ i _ => zs.length - (intOf i).toNat)
    case atStart => exact ⟨0, by omega, rfl, rfl, rfl, hog, hoh, hb⟩
    case round =>
      obtain ⟨t, ht, rfl, rfl, rfl, hx, hy, hk⟩ := hrel
      clear hog hoh hb
      by_cases hlt : t < zs.length
      · have h1 := (hk.cell (p := ⟨b, o + t, none⟩) hbl).trans ((Hcell.out t (by omega)).trans (cCells_get zs t hlt))
        have Hxs := hide (flCells_snoc (xsZ zs) t (by rw [xsZ_len]; exact hlt))
        have Hys := hide (flCells_snoc (ysZ zs) t (by rw [ysZ_len]; exact hlt))
        rw [xsZ_at zs t hlt] at Hxs
        rw [ysZ_at zs t hlt] at Hys
        clear Hcell
        generalize zs[t] = z at *
        obtain ⟨x, y⟩ := z
        dsimp only at h1 Hxs Hys
        generalize flCells ((xsZ zs).take t) = fx at *
        generalize flCells ((ysZ zs).take t) = fy at *
        go_wp2_with (at_builtin; go_loud (refine wpList_append_fits _ rfl _ _ 91 rfl w.heap.size 55 i0 1 Try.underlying91 hi0 hz1 g t zs.length fx rfl (hx.alloc _) ⟨wr.heap.size, 0, none⟩ 1 1 [.float .f32 x] rfl rfl (fun j u hu => newsP wr #[.float .f32 x] 55 j u hu) (by simp [Value.oneCell']) (by omega) ?_))
        intro w3 ho3 hg3
        have hka := kept_new wr (.cells #[.float .f32 x] 55)
        have hk3 := kept_grown (kept_trans hk hka) hg3 (fun k hk => by cases hk; exact hgB)
        have hy3 := (owns_kept hy hka).kept hg3 (.inr (by simp only [Value.ownBlock, ne_eq, Option.some.injEq]; exact fun e => hgh e.symm))
        clear hx hy hka hg3 hk h1
        go_wp2_with (at_builtin; go_loud (refine wpList_append_fits _ rfl _ _ 91 rfl w.heap.size 55 i0 1 Try.underlying91 hi0 hz1 h t zs.length fy rfl (hy3.alloc _) ⟨w3.heap.size, 0, none⟩ 1 1 [.float .f32 y] rfl rfl (fun j u hu => newsP w3 #[.float .f32 y] 55 j u hu) (by simp [Value.oneCell']) (by omega) ?_))
        intro w4 ho4 hg4
        have hkb := kept_new w3 (.cells #[.float .f32 y] 55)
        have hk4 := kept_grown (kept_trans hk3 hkb) hg4 (fun k hk => by cases hk; exact hhB)
        have hx4 := (owns_kept ho3 hkb).kept hg4 (.inr (by simp only [Value.ownBlock, ne_eq, Option.some.injEq]; exact hgh))
        clear hy3 hkb hg4 hk3 ho3
        go_wp2_with fail
        go_roundw
        case rel => exact ⟨t + 1, by omega, by go_num, rfl, rfl, by rw [Hxs.out]; exact hx4, by rw [Hys.out]; exact ho4, hk4⟩
        case measure => simp [intOf]; omega
      · obtain rfl : t = zs.length := by omega
        rw [List.take_of_length_le (by rw [xsZ_len]; omega)] at hx
        rw [List.take_of_length_le (by rw [ysZ_len]; omega)] at hy
        have Hx := hide (owns_reads hx)
        have Hy := hide (owns_reads hy)
        clear hx hy Hcell
        go_wp2_with fail
        refine (HLx.out _ _ Hx.out).mono ?_
        rintro e w3 ⟨rfl, rfl⟩
        go_wp2_with fail
        refine (HLy.out _ _ Hy.out).mono ?_
        rintro e w3 ⟨rfl, rfl⟩
        go_wp2_with fail
        refine (HMx.out _ _ Hx.out).mono ?_
        rintro e w3 ⟨rfl, rfl⟩
        go_wp2_with fail
        refine (HMy.out _ _ Hy.out).mono ?_
        rintro e w3 ⟨rfl, rfl⟩
        go_wp2_with fail
        refine bodyPost_ret (v := .tuple #[.complex .f32 a1 a2, .complex .f32 b1 b2, .bool true]) (by simp [results, Try.results36, go_sem]) rfl ⟨rfl, hk⟩

/-- Where there is no path. -/
theorem implBoxF_ok (v : Value) (zs : List (Nat × Nat)) (w : World) (hr : Reads w 1 v zs.length (cCells zs)) (hp : pathOk zs = false) :
    Calls Try.prog 36 #[v] w fun e w' => e = .returned (.tuple #[.complex .f32 0 0, .complex .f32 0 0, .bool false]) ∧ w = w' := by
  have hi := implPath_ok v zs w hr
  rw [hp] at hi
  have Hpv := hide hi
  clear hi hp hr
  go_enter Try.func36, Try.ntmps36
  go_wp2_with fail
  refine Hpv.out.mono ?_
  rintro e w1 ⟨rfl, rfl⟩
  go_wp2_with fail
  refine bodyPost_ret (v := .tuple #[.complex .f32 0 0, .complex .f32 0 0, .bool false]) (by simp [results, Try.results36, go_sem]) rfl ⟨rfl, rfl⟩

theorem specBoxF_ok (v : Value) (zs : List (Nat × Nat)) (w : World) (hr : Reads w 1 v zs.length (cCells zs)) (hp : pathOk zs = false) :
    Calls Try.prog 37 #[v] w fun e w' => e = .returned (.tuple #[.complex .f32 0 0, .complex .f32 0 0, .bool false]) ∧ w = w' := by
  have hi := specPath_ok v zs w hr
  rw [hp] at hi
  have Hpv := hide hi
  clear hi hp hr
  go_enter Try.func37, Try.ntmps37
  go_wp2_with fail
  refine Hpv.out.mono ?_
  rintro e w1 ⟨rfl, rfl⟩
  go_wp2_with fail
  refine bodyPost_ret (v := .tuple #[.complex .f32 0 0, .complex .f32 0 0, .bool false]) (by simp [results, Try.results37, go_sem]) rfl ⟨rfl, rfl⟩

end Go.Proofs.Ytnlmiemnblppbaa
