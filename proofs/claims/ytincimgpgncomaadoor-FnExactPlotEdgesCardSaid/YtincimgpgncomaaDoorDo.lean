/-
  The program's pen does one step: (*plotter).do.
-/
import Derived.Test.YtincimgpgncomaaDoorPw
import Derived.Test.YtincimgpgncomaaDoorReg
import Derived.Shelf.Small.Strs
import Derived.Shelf.Lays
import Derived.Ground.NamesProg
import Derived.Laws.IdiomStrings
namespace Go.Proofs.YtincimgpgncomaaDoor
open Go.RowKit Go.Shelf

def Tryd.lays137_ren : Go.Shelf.Ren := ⟨fun | 137 => 64 | 217 => 79 | 266 => 91 | n => n, fun | 9 => 9 | 5 => 5 | 3 => 3 | n => n, fun | n => n⟩
theorem Tryd.lays137 : Go.Proofs.Lays.n137 Tryd.prog Tryd.lays137_ren := {
  mixed := by kernel_rfl
  f137 := Tryd.func64.trans (congrArg some (by kernel_rfl))
  f217 := Tryd.func79.trans (congrArg some (by kernel_rfl))
  f266 := Tryd.func91.trans (congrArg some (by kernel_rfl))
  t3 := Tryd.underlying3
  a3 := Tryd.isAgg3
  z3 := Tryd.sizeOf3
  v3 := Tryd.zeroValue3
  t5 := Tryd.underlying5
  a5 := Tryd.isAgg5
  z5 := Tryd.sizeOf5
  v5 := Tryd.zeroValue5
  t9 := Tryd.underlying9
  a9 := Tryd.isAgg9
  z9 := Tryd.sizeOf9
  v9 := Tryd.zeroValue9 }

theorem enws {b : UInt8} {d : Nat} (h : b = 101 ∨ b = 110 ∨ b = 119 ∨ b = 115) (hd : dirB b = some d) : Lib.indexByte [101, 110, 119, 115] b = d := by
  rcases h with rfl | rfl | rfl | rfl <;> (have := Option.some.inj hd; subst this; rfl)

theorem ixDir_ok (b : UInt8) (d : Nat) (w : World) (h : b = 101 ∨ b = 110 ∨ b = 119 ∨ b = 115) (hd : dirB b = some d) :
    Calls Tryd.prog 64 #[.string ⟨#[101, 110, 119, 115]⟩, .int .u8 b.toNat] w fun e w' => e = .returned (.int .i64 d) ∧ w' = w := by
  have h1 := Any.strings_IndexByte Tryd.lays137 ⟨#[101, 110, 119, 115]⟩ (b.toNat : Int) w
  have e1 : ((b.toNat : Int).toNat.toUInt8) = b := by simp
  rw [e1] at h1
  have e2 : Lib.indexByte (⟨#[101, 110, 119, 115]⟩ : ByteArray).data.toList b = d := enws h hd
  rw [e2] at h1
  exact h1

/-- The program's pen in block P. -/
def PlAt (P : Nat) (r : Run) (w : World) : Prop := w.heap[P]? = some (.cells #[.int .i64 r.x, .int .i64 r.y, .int .i64 r.turn, .bool r.down] 59 (0, 0))

/-- The move that a step makes, if it makes one. -/
def moveB (r : Run) (b : UInt8) : Option (Int × Int) := if b = 117 ∨ b = 100 ∨ b = 116 then none else (dirB b).map (wayOf r)
def moveV (m : Option (Int × Int)) : Value := match m with
  | none => .tuple #[.agg #[.int .i64 0, .int .i64 0], .bool false]
  | some m => .tuple #[.agg #[.int .i64 m.1, .int .i64 m.2], .bool true]

theorem step_moves (r : Run) (b : UInt8) : (stepR r b).moves = r.moves ++ (moveB r b).toList := by
  unfold stepR moveB
  by_cases h1 : b = 117
  · simp [h1]
  · by_cases h2 : b = 100
    · simp [h2]
    · by_cases h3 : b = 116
      · simp [h3]
      · simp only [h1, h2, h3, if_false, or_self]
        cases dirB b with
        | none => simp
        | some d => simp [goB]

theorem pl_end {w : World} {P j : Nat} {cs : Array Value} (h : w.heap[P]? = some (.cells cs 59 (0, 0))) (u : Value) (o : Obj) : ((w.setCell ⟨P, j, none⟩ u).alloc o).heap[P]? = some (.cells (cs.setIfInBounds j u) 59 (0, 0)) ∧ w.grownBy ((w.setCell ⟨P, j, none⟩ u).alloc o) (some P) := by
  have h1 := heap_set (T := 59) h u (j := j)
  exact ⟨(Below.heap_alloc _ _ _ (Array.getElem?_eq_some_iff.1 h1).1).trans h1, grown_trans' (grown_set _ _ _ _) (World.grownBy_alloc _ _ _)⟩

set_option maxRecDepth 100000 in
set_option maxHeartbeats 4000000 in
theorem do_ok (P : Nat) (r : Run) (b : UInt8) (w : World) (hP : PlAt P r w) (hok : RunOk 10000 r) (hb : isStepB b) :
    Calls Tryd.prog 48 #[.pointer (some ⟨P, 0, none⟩), .int .u8 b.toNat] w fun e w' => e = .returned (moveV (moveB r b)) ∧ PlAt P (stepR r b) w' ∧ w.grownBy w' (some P) := by
  obtain ⟨k1, k2, k3, k4, k5, k6, k7⟩ := hok
  unfold PlAt at hP ⊢
  have hlt : P < w.heap.size := (Array.getElem?_eq_some_iff.1 hP).1
  have c0 : w.cell? ⟨P, 0, none⟩ = some (.int .i64 r.x) := by rw [Lib.cell_of_heap hP]; rfl
  have c1 : w.cell? ⟨P, 1, none⟩ = some (.int .i64 r.y) := by rw [Lib.cell_of_heap hP]; rfl
  have c2 : w.cell? ⟨P, 2, none⟩ = some (.int .i64 r.turn) := by rw [Lib.cell_of_heap hP]; rfl
  have c3 : w.cell? ⟨P, 3, none⟩ = some (.bool r.down) := by rw [Lib.cell_of_heap hP]; rfl
  have f2 : w.frozen? ⟨P, 2, none⟩ = false := Lib.frozen_of_heap hP 2
  have f3 : w.frozen? ⟨P, 3, none⟩ = false := Lib.frozen_of_heap hP 3
  have hkT := kept_new w (.cells #[.int .i64 0, .int .i64 0] 30)
  have p2 := kept_cell hkT c2
  have p3 := kept_cell hkT c3
  have g2 := (hkT.frozen (p := ⟨P, 2, none⟩) hlt).trans f2
  have g3 := (hkT.frozen (p := ⟨P, 3, none⟩) hlt).trans f3
  have hPT := (hkT.block P hlt).trans hP
  have hgT := World.grownBy_alloc w (.cells #[.int .i64 0, .int .i64 0] 30) (some P)
  have tT : (w.alloc (.cells #[.int .i64 0, .int .i64 0] 30)).cell? ⟨w.heap.size, 0, none⟩ = some (.int .i64 0) := by go_simp
  have tT1 : (w.alloc (.cells #[.int .i64 0, .int .i64 0] 30)).cell? ⟨w.heap.size, 1, none⟩ = some (.int .i64 0) := by go_simp
  rcases step_dir hb with rfl | rfl | rfl | ⟨bc, b1, b2, b3, d, hd4, hd⟩
  · have hs : Hid (stepR r 117 = { r with down := false }) := rfl
    go_enter Tryd.func48, Tryd.ntmps48
    go_wp2_with fail
    refine bodyPost_ret (v := .tuple #[.agg #[.int .i64 0, .int .i64 0], .bool false]) (by simp [results, Tryd.results48, go_sem]) rfl ⟨rfl, ?_, (pl_end hP _ _).2⟩
    rw [hs.out]
    exact (pl_end hP _ _).1
  · have hs : Hid (stepR r 100 = { r with down := true }) := rfl
    go_enter Tryd.func48, Tryd.ntmps48
    go_wp2_with fail
    refine bodyPost_ret (v := .tuple #[.agg #[.int .i64 0, .int .i64 0], .bool false]) (by simp [results, Tryd.results48, go_sem]) rfl ⟨rfl, ?_, (pl_end hP _ _).2⟩
    rw [hs.out]
    exact (pl_end hP _ _).1
  · have hs : Hid (stepR r 116 = { r with turn := (r.turn + 1) % 4 }) := rfl
    have q : ((r.turn : Int) + 1).tmod 4 = (((r.turn + 1) % 4 : Nat) : Int) := by rw [Int.tmod_eq_emod_of_nonneg (by omega)]; omega
    go_enter Tryd.func48, Tryd.ntmps48
    go_wp2_with fail
    refine bodyPost_ret (v := .tuple #[.agg #[.int .i64 0, .int .i64 0], .bool false]) (by simp [results, Tryd.results48, go_sem]) rfl ⟨rfl, ?_, (pl_end hP _ _).2⟩
    rw [hs.out]
    exact (pl_end hP _ _).1
  · have e1 : ((b.toNat : Int) == 117) = false := beq_eq_false_iff_ne.2 fun e => b1 (UInt8.toNat_inj.1 (show b.toNat = 117 by omega))
    have e2 : ((b.toNat : Int) == 100) = false := beq_eq_false_iff_ne.2 fun e => b2 (UInt8.toNat_inj.1 (show b.toNat = 100 by omega))
    have e3 : ((b.toNat : Int) == 116) = false := beq_eq_false_iff_ne.2 fun e => b3 (UInt8.toNat_inj.1 (show b.toNat = 116 by omega))
    have hs : Hid (stepR r b = goB r d) := by rw [Hid, stepR, if_neg b1, if_neg b2, if_neg b3, hd]
    have hmv : Hid (moveB r b = some (wayOf r d)) := by rw [Hid, moveB, if_neg (by simp [b1, b2, b3]), hd]; rfl
    have hix := fun w => ixDir_ok b d w bc hd
    have hq : ((d : Int) + r.turn).tmod 4 = (((d + r.turn) % 4 : Nat) : Int) := by rw [Int.tmod_eq_emod_of_nonneg (by omega)]; omega
    have hk4 : (d + r.turn) % 4 < 4 := Nat.mod_lt _ (by decide)
    have hgo : goB r d = { x := r.x + (wayOf r d).1, y := r.y + (wayOf r d).2, turn := r.turn, down := r.down, moves := r.moves ++ [wayOf r d], edges := if r.down = true then r.edges ++ [edgeB r.x r.y (r.x + (wayOf r d).1) (r.y + (wayOf r d).2)] else r.edges } := rfl
    rw [hgo] at hs
    clear hgo
    have hway : wayOf r d = wayB ((d + r.turn) % 4) := rfl
    have har : ∀ (W : World) (A : Nat), W.heap.size = A → ∀ k, k < 4 → (W.alloc (.cells #[.int .i64 1, .int .i64 0, .int .i64 0, .int .i64 1, .int .i64 (-1), .int .i64 0, .int .i64 0, .int .i64 (-1)] 91)).cell? ⟨A, k * 2, none⟩ = some (.int .i64 (wayB k).1) ∧ (W.alloc (.cells #[.int .i64 1, .int .i64 0, .int .i64 0, .int .i64 1, .int .i64 (-1), .int .i64 0, .int .i64 0, .int .i64 (-1)] 91)).cell? ⟨A, k * 2 + 1, none⟩ = some (.int .i64 (wayB k).2) := by
      intro W A hA k hk
      rw [Lib.cell_of_heap (by rw [← hA]; exact heap_alloc_new W _), Lib.cell_of_heap (by rw [← hA]; exact heap_alloc_new W _)]
      rcases (show k = 0 ∨ k = 1 ∨ k = 2 ∨ k = 3 by omega) with rfl | rfl | rfl | rfl <;> exact ⟨rfl, rfl⟩
    have hwb : -1 ≤ (wayOf r d).1 ∧ (wayOf r d).1 ≤ 1 ∧ -1 ≤ (wayOf r d).2 ∧ (wayOf r d).2 ≤ 1 := by
      rw [hway]
      rcases way_cases ((d + r.turn) % 4) with e | e | e | e <;> rw [e] <;> decide
    have hAr := hide har
    clear har bc b1 b2 b3 hd hb f2 f3 c3
    generalize (d + r.turn) % 4 = k at *
    generalize wayOf r d = m at *
    go_enter Tryd.func48, Tryd.ntmps48
    go_wp2_with fail
    have hk1 : Below w.heap.size w ((w.alloc (.cells #[.int .i64 0, .int .i64 0] 30)).alloc (.cells #[.int .i64 1, .int .i64 0, .int .i64 0, .int .i64 1, .int .i64 (-1), .int .i64 0, .int .i64 0, .int .i64 (-1)] 91)) := kept_alloc hkT _
    obtain ⟨a0, a1⟩ := hAr.out (w.alloc (.cells #[.int .i64 0, .int .i64 0] 30)) (w.heap.size + 1) (by simp) k hk4
    have t0 : ((w.alloc (.cells #[.int .i64 0, .int .i64 0] 30)).alloc (.cells #[.int .i64 1, .int .i64 0, .int .i64 0, .int .i64 1, .int .i64 (-1), .int .i64 0, .int .i64 0, .int .i64 (-1)] 91)).heap[w.heap.size]? = some (.cells #[.int .i64 0, .int .i64 0] 30 (0, 0)) := by
      rw [Below.heap_alloc _ _ _ (by simp)]; exact heap_alloc_new w _
    have hs1 : ((w.alloc (.cells #[.int .i64 0, .int .i64 0] 30)).alloc (.cells #[.int .i64 1, .int .i64 0, .int .i64 0, .int .i64 1, .int .i64 (-1), .int .i64 0, .int .i64 0, .int .i64 (-1)] 91)).heap.size = w.heap.size + 2 := by simp
    clear hAr hkT p2 p3 g2 g3 hPT hgT tT tT1
    generalize (w.alloc (.cells #[.int .i64 0, .int .i64 0] 30)).alloc (.cells #[.int .i64 1, .int .i64 0, .int .i64 0, .int .i64 1, .int .i64 (-1), .int .i64 0, .int .i64 0, .int .i64 (-1)] 91) = w1 at *
    rw [← hway] at a0 a1
    obtain ⟨mx, my⟩ := m
    obtain ⟨v1, v2, v3, v4⟩ := hwb
    dsimp only at v1 v2 v3 v4 a0 a1
    replace hP := (hk1.block P hlt).trans hP
    replace c0 := kept_cell hk1 c0
    replace c1 := kept_cell hk1 c1
    replace c2 := kept_cell hk1 c2
    have i1 : (0 : Int) ≤ (k : Int) := by omega
    have i2 : (k : Int) < 4 := by omega
    have q0 : IntKind.i64.wrap ((d : Int) + r.turn) = (d : Int) + r.turn := IntWalk.i64_in _ (by omega)
    have q1 : IntKind.i64.wrap (k : Int) = k := IntWalk.i64_in _ (by omega)
    have q2 : IntKind.i64.wrap (r.x + mx) = r.x + mx := IntWalk.i64_in _ (by omega)
    have q3 : IntKind.i64.wrap (r.y + my) = r.y + my := IntWalk.i64_in _ (by omega)
    refine wp_region_held (S := fun W => Below w1.heap.size w1 W) (by kernel_rfl) ?_
    change wpAnyH _ _ _ _ _ _ _ _ w1.drew
    refine wpAnyH_take (i := 0) (v := .int .u8 b.toNat) rfl (by kernel_rfl) (by kernel_rfl) (by kernel_rfl) (fun _ _ _ h => h) (.inl ⟨by kernel_rfl, fun _ _ => by go_simp⟩) (kept_drew w1) ?_
    refine wpAnyH_take (i := 2) (v := .pointer (some ⟨P, 0, none⟩)) rfl (by kernel_rfl) (by kernel_rfl) (by kernel_rfl) (fun _ _ _ h => h) (.inl ⟨by kernel_rfl, fun _ _ => by go_simp⟩) (kept_drew w1) ?_
    refine wpAnyH_take (i := 3) (v := .pointer (some ⟨P, 0, none⟩)) rfl (by kernel_rfl) (by kernel_rfl) (by kernel_rfl) (fun _ _ _ h => h) (.inl ⟨by kernel_rfl, fun _ _ => by go_simp⟩) (kept_drew w1) ?_
    refine wpAnyH_take (i := 4) (v := .pointer (some ⟨P, 2, none⟩)) rfl (by kernel_rfl) (by kernel_rfl) (by kernel_rfl) (fun _ _ _ h => h) (.inl ⟨by kernel_rfl, fun _ _ => by go_simp⟩) (kept_drew w1) ?_
    refine wpAnyH_take (i := 5) (v := .int .i64 r.turn) rfl (by kernel_rfl) (by kernel_rfl) (by kernel_rfl) (fun _ _ _ h => h) (.inl ⟨by kernel_rfl, fun W hW => by (have d := kept_cell hW c2; go_simp)⟩) (kept_drew w1) ?_
    refine wpAnyH_all (rs := [1, 10]) (by kernel_rfl) (by simp) (List.forall_mem_cons.2 ⟨?_, List.forall_mem_cons.2 ⟨?_, List.forall_mem_nil _⟩⟩)
    · refine opH_call (f := 64) rfl (by kernel_rfl) (by first | (go_simp; done) | (go_simp; exact ⟨rfl, rfl⟩)) (hix _) ?_
      rintro e u1 ⟨rfl, rfl⟩
      refine ⟨_, rfl, (kept_drew w1), ?_⟩
      refine wpAnyH_take (i := 6) (v := .int .i64 ((d : Int) + r.turn)) rfl (by kernel_rfl) (by kernel_rfl) (by kernel_rfl) (fun _ _ _ h => h) (.inl ⟨by kernel_rfl, fun _ _ => by go_simp⟩) (kept_drew w1) ?_
      refine wpAnyH_take (i := 7) (v := .int .i64 k) rfl (by kernel_rfl) (by kernel_rfl) (by kernel_rfl) (fun _ _ _ h => h) (.inl ⟨by kernel_rfl, fun _ _ => by go_simp⟩) (kept_drew w1) ?_
      refine wpAnyH_take (i := 8) (v := .pointer (some ⟨w.heap.size + 1, k * 2, none⟩)) rfl (by kernel_rfl) (by kernel_rfl) (by kernel_rfl) (fun _ _ _ h => h) (.inl ⟨by kernel_rfl, fun _ _ => by go_simp⟩) (kept_drew w1) ?_
      refine wpAnyH_take (i := 9) (v := .agg #[.int .i64 mx, .int .i64 my]) rfl (by kernel_rfl) (by kernel_rfl) (by kernel_rfl) (fun _ _ _ h => h) (.inl ⟨by kernel_rfl, fun W hW => by (have d1 := kept_cell hW a0; have d2 := kept_cell hW a1; go_simp)⟩) (kept_drew w1) ?_
      refine wpAnyH_all (rs := [10]) (by kernel_rfl) (by simp) (List.forall_mem_cons.2 ⟨?_, List.forall_mem_nil _⟩)
      refine opH_run (v := .pointer (some ⟨w1.heap.size, 0, none⟩)) (w' := w1.drew.alloc (.cells #[.int .i64 0, .int .i64 0] 30)) rfl (by kernel_rfl) (by go_simp) ?_
      have hS1 : Below w1.heap.size w1 (w1.drew.alloc (.cells #[.int .i64 0, .int .i64 0] 30)) := kept_alloc (kept_drew w1) _
      refine ⟨hS1, ?_⟩
      refine wpAnyH_all (rs := [11]) (by kernel_rfl) (by simp) (List.forall_mem_cons.2 ⟨?_, List.forall_mem_nil _⟩)
      refine opH_store (w' := ((w1.drew.alloc (.cells #[.int .i64 0, .int .i64 0] 30)).setCell ⟨w1.heap.size, 0, none⟩ (.int .i64 mx)).setCell ⟨w1.heap.size, 1, none⟩ (.int .i64 my)) rfl (by kernel_rfl) (by go_simp) ?_
      have hS2 := kept_set (kept_set hS1 (p := ⟨w1.heap.size, 0, none⟩) (Nat.le_refl _) (.int .i64 mx)) (p := ⟨w1.heap.size, 1, none⟩) (Nat.le_refl _) (.int .i64 my)
      refine ⟨hS2, ?_⟩
      refine wpAnyH_done (by kernel_rfl) ?_ _
      go_simp
      have hk2 : Below w1.heap.size w1 ((w1.alloc (.cells #[.int .i64 mx, .int .i64 my] 30)).drew) := (kept_new _ _).drew
      have n0 : ((w1.alloc (.cells #[.int .i64 mx, .int .i64 my] 30)).drew).cell? ⟨w.heap.size + 2, 0, none⟩ = some (.int .i64 mx) := by rw [← hs1]; go_simp
      have n1 : ((w1.alloc (.cells #[.int .i64 mx, .int .i64 my] 30)).drew).cell? ⟨w.heap.size + 2, 1, none⟩ = some (.int .i64 my) := by rw [← hs1]; go_simp
      have hP2 := (hk2.block P (by omega)).trans hP
      have hT2 := (hk2.block w.heap.size (by omega)).trans t0
      replace c0 := kept_cell hk2 c0
      replace c1 := kept_cell hk2 c1
      have hk02 : Below w.heap.size w ((w1.alloc (.cells #[.int .i64 mx, .int .i64 my] 30)).drew) := kept_trans hk1 hk2
      clear hS1 hS2 hk1 hk2 hP t0 a0 a1 c2 hs1
      generalize (w1.alloc (.cells #[.int .i64 mx, .int .i64 my] 30)).drew = w2 at *
      have f0 : w2.frozen? ⟨P, 0, none⟩ = false := Lib.frozen_of_heap hP2 0
      have f1 : w2.frozen? ⟨P, 1, none⟩ = false := Lib.frozen_of_heap hP2 1
      have hP3 := heap_set (heap_set hP2 (.int .i64 (r.x + mx)) (j := 0)) (.int .i64 (r.y + my)) (j := 1)
      have hT3 : ((w2.setCell ⟨P, 0, none⟩ (.int .i64 (r.x + mx))).setCell ⟨P, 1, none⟩ (.int .i64 (r.y + my))).heap[w.heap.size]? = some (.cells #[.int .i64 0, .int .i64 0] 30 (0, 0)) := by
        rw [Below.heap_setCell _ _ _ _ (by simp; omega), Below.heap_setCell _ _ _ _ (by simp; omega)]
        exact hT2
      have hg3 : w.grownBy ((w2.setCell ⟨P, 0, none⟩ (.int .i64 (r.x + mx))).setCell ⟨P, 1, none⟩ (.int .i64 (r.y + my))) (some P) := grown_trans' (grown_of_kept hk02 _) (grown_trans' (grown_set _ _ _ _) (grown_set _ _ _ _))
      have HP := hide hP3
      have HT := hide hT3
      have HG := hide hg3
      have x0 : ((w2.setCell ⟨P, 0, none⟩ (.int .i64 (r.x + mx))).setCell ⟨P, 1, none⟩ (.int .i64 (r.y + my))).cell? ⟨w.heap.size + 2, 0, none⟩ = some (.int .i64 mx) := by
        rw [World.cell?_setCell_other _ _ _ _ (by first | (simp; done) | (simp; omega)), World.cell?_setCell_other _ _ _ _ (by first | (simp; done) | (simp; omega))]; exact n0
      have x1 : ((w2.setCell ⟨P, 0, none⟩ (.int .i64 (r.x + mx))).setCell ⟨P, 1, none⟩ (.int .i64 (r.y + my))).cell? ⟨w.heap.size + 2, 1, none⟩ = some (.int .i64 my) := by
        rw [World.cell?_setCell_other _ _ _ _ (by first | (simp; done) | (simp; omega)), World.cell?_setCell_other _ _ _ _ (by first | (simp; done) | (simp; omega))]; exact n1
      have tc0 : w2.cell? ⟨w.heap.size, 0, none⟩ = some (.int .i64 0) := by rw [Lib.cell_of_heap hT2]; rfl
      have tc1 : w2.cell? ⟨w.heap.size, 1, none⟩ = some (.int .i64 0) := by rw [Lib.cell_of_heap hT2]; rfl
      have tf0 : w2.frozen? ⟨w.heap.size, 0, none⟩ = false := Lib.frozen_of_heap hT2 0
      have tf1 : w2.frozen? ⟨w.heap.size, 1, none⟩ = false := Lib.frozen_of_heap hT2 1
      have X0 := hide x0
      have X1 := hide x1
      clear hP2 hT2 hP3 hT3 hg3 hk02 x0 x1
      go_wp2_with fail
      go_still_tail 20, (by kernel_rfl)
      go_wp2_with fail
      have hT4 := heap_set (heap_set HT.out (.int .i64 mx) (j := 0)) (.int .i64 my) (j := 1)
      have hP4 : ((((w2.setCell ⟨P, 0, none⟩ (.int .i64 (r.x + mx))).setCell ⟨P, 1, none⟩ (.int .i64 (r.y + my))).setCell ⟨w.heap.size, 0, none⟩ (.int .i64 mx)).setCell ⟨w.heap.size, 1, none⟩ (.int .i64 my)).heap[P]? = _ := (Below.heap_setCell _ ⟨w.heap.size, 1, none⟩ _ _ (show P ≠ w.heap.size by omega)).trans ((Below.heap_setCell _ ⟨w.heap.size, 0, none⟩ _ _ (show P ≠ w.heap.size by omega)).trans HP.out)
      have hg4 : w.grownBy ((((w2.setCell ⟨P, 0, none⟩ (.int .i64 (r.x + mx))).setCell ⟨P, 1, none⟩ (.int .i64 (r.y + my))).setCell ⟨w.heap.size, 0, none⟩ (.int .i64 mx)).setCell ⟨w.heap.size, 1, none⟩ (.int .i64 my)) (some P) := by
        have h := HG.out
        refine ⟨h.os, h.tape, h.output, by simpa [World.setCell] using h.size, fun j hj hne => ?_⟩
        rw [Below.heap_setCell _ ⟨w.heap.size, 1, none⟩ _ _ (show j ≠ w.heap.size by omega), Below.heap_setCell _ ⟨w.heap.size, 0, none⟩ _ _ (show j ≠ w.heap.size by omega)]
        exact h.block j hj hne
      clear HT HP HG X0 X1 n0 n1 c0 c1 f0 f1 tc0 tc1 tf0 tf1
      generalize (((w2.setCell ⟨P, 0, none⟩ (.int .i64 (r.x + mx))).setCell ⟨P, 1, none⟩ (.int .i64 (r.y + my))).setCell ⟨w.heap.size, 0, none⟩ (.int .i64 mx)).setCell ⟨w.heap.size, 1, none⟩ (.int .i64 my) = w4 at *
      have y0 : w4.cell? ⟨w.heap.size, 0, none⟩ = some (.int .i64 mx) := by rw [Lib.cell_of_heap hT4]; rfl
      have y1 : w4.cell? ⟨w.heap.size, 1, none⟩ = some (.int .i64 my) := by rw [Lib.cell_of_heap hT4]; rfl
      refine bodyPost_ret (v := .tuple #[.agg #[.int .i64 mx, .int .i64 my], .bool true]) (by simp [results, Tryd.results48, go_sem, y0, y1]) rfl ⟨by rw [hmv.out]; rfl, ?_, ?_⟩
      · rw [hs.out]; exact hP4
      · exact ⟨hg4.os, hg4.tape, hg4.output, hg4.size, hg4.block⟩
    · refine opH_run (v := .pointer (some ⟨w1.heap.size, 0, none⟩)) (w' := w1.drew.alloc (.cells #[.int .i64 0, .int .i64 0] 30)) rfl (by kernel_rfl) (by go_simp) ?_
      have hS1 : Below w1.heap.size w1 (w1.drew.alloc (.cells #[.int .i64 0, .int .i64 0] 30)) := kept_alloc (kept_drew w1) _
      refine ⟨hS1, ?_⟩
      refine wpAnyH_all (rs := [1]) (by kernel_rfl) (by simp) (List.forall_mem_cons.2 ⟨?_, List.forall_mem_nil _⟩)
      refine opH_call (f := 64) rfl (by kernel_rfl) (by first | (go_simp; done) | (go_simp; exact ⟨rfl, rfl⟩)) (hix _) ?_
      rintro e u1 ⟨rfl, rfl⟩
      refine ⟨_, rfl, hS1, ?_⟩
      refine wpAnyH_take (i := 6) (v := .int .i64 ((d : Int) + r.turn)) rfl (by kernel_rfl) (by kernel_rfl) (by kernel_rfl) (fun _ _ _ h => h) (.inl ⟨by kernel_rfl, fun _ _ => by go_simp⟩) hS1 ?_
      refine wpAnyH_take (i := 7) (v := .int .i64 k) rfl (by kernel_rfl) (by kernel_rfl) (by kernel_rfl) (fun _ _ _ h => h) (.inl ⟨by kernel_rfl, fun _ _ => by go_simp⟩) hS1 ?_
      refine wpAnyH_take (i := 8) (v := .pointer (some ⟨w.heap.size + 1, k * 2, none⟩)) rfl (by kernel_rfl) (by kernel_rfl) (by kernel_rfl) (fun _ _ _ h => h) (.inl ⟨by kernel_rfl, fun _ _ => by go_simp⟩) hS1 ?_
      refine wpAnyH_take (i := 9) (v := .agg #[.int .i64 mx, .int .i64 my]) rfl (by kernel_rfl) (by kernel_rfl) (by kernel_rfl) (fun _ _ _ h => h) (.inl ⟨by kernel_rfl, fun W hW => by (have d1 := kept_cell hW a0; have d2 := kept_cell hW a1; go_simp)⟩) hS1 ?_
      refine wpAnyH_all (rs := [11]) (by kernel_rfl) (by simp) (List.forall_mem_cons.2 ⟨?_, List.forall_mem_nil _⟩)
      refine opH_store (w' := ((w1.drew.alloc (.cells #[.int .i64 0, .int .i64 0] 30)).setCell ⟨w1.heap.size, 0, none⟩ (.int .i64 mx)).setCell ⟨w1.heap.size, 1, none⟩ (.int .i64 my)) rfl (by kernel_rfl) (by go_simp) ?_
      have hS2 := kept_set (kept_set hS1 (p := ⟨w1.heap.size, 0, none⟩) (Nat.le_refl _) (.int .i64 mx)) (p := ⟨w1.heap.size, 1, none⟩) (Nat.le_refl _) (.int .i64 my)
      refine ⟨hS2, ?_⟩
      refine wpAnyH_done (by kernel_rfl) ?_ _
      go_simp
      have hk2 : Below w1.heap.size w1 ((w1.alloc (.cells #[.int .i64 mx, .int .i64 my] 30)).drew) := (kept_new _ _).drew
      have n0 : ((w1.alloc (.cells #[.int .i64 mx, .int .i64 my] 30)).drew).cell? ⟨w.heap.size + 2, 0, none⟩ = some (.int .i64 mx) := by rw [← hs1]; go_simp
      have n1 : ((w1.alloc (.cells #[.int .i64 mx, .int .i64 my] 30)).drew).cell? ⟨w.heap.size + 2, 1, none⟩ = some (.int .i64 my) := by rw [← hs1]; go_simp
      have hP2 := (hk2.block P (by omega)).trans hP
      have hT2 := (hk2.block w.heap.size (by omega)).trans t0
      replace c0 := kept_cell hk2 c0
      replace c1 := kept_cell hk2 c1
      have hk02 : Below w.heap.size w ((w1.alloc (.cells #[.int .i64 mx, .int .i64 my] 30)).drew) := kept_trans hk1 hk2
      clear hS1 hS2 hk1 hk2 hP t0 a0 a1 c2 hs1
      generalize (w1.alloc (.cells #[.int .i64 mx, .int .i64 my] 30)).drew = w2 at *
      have f0 : w2.frozen? ⟨P, 0, none⟩ = false := Lib.frozen_of_heap hP2 0
      have f1 : w2.frozen? ⟨P, 1, none⟩ = false := Lib.frozen_of_heap hP2 1
      have hP3 := heap_set (heap_set hP2 (.int .i64 (r.x + mx)) (j := 0)) (.int .i64 (r.y + my)) (j := 1)
      have hT3 : ((w2.setCell ⟨P, 0, none⟩ (.int .i64 (r.x + mx))).setCell ⟨P, 1, none⟩ (.int .i64 (r.y + my))).heap[w.heap.size]? = some (.cells #[.int .i64 0, .int .i64 0] 30 (0, 0)) := by
        rw [Below.heap_setCell _ _ _ _ (by simp; omega), Below.heap_setCell _ _ _ _ (by simp; omega)]
        exact hT2
      have hg3 : w.grownBy ((w2.setCell ⟨P, 0, none⟩ (.int .i64 (r.x + mx))).setCell ⟨P, 1, none⟩ (.int .i64 (r.y + my))) (some P) := grown_trans' (grown_of_kept hk02 _) (grown_trans' (grown_set _ _ _ _) (grown_set _ _ _ _))
      have HP := hide hP3
      have HT := hide hT3
      have HG := hide hg3
      have x0 : ((w2.setCell ⟨P, 0, none⟩ (.int .i64 (r.x + mx))).setCell ⟨P, 1, none⟩ (.int .i64 (r.y + my))).cell? ⟨w.heap.size + 2, 0, none⟩ = some (.int .i64 mx) := by
        rw [World.cell?_setCell_other _ _ _ _ (by first | (simp; done) | (simp; omega)), World.cell?_setCell_other _ _ _ _ (by first | (simp; done) | (simp; omega))]; exact n0
      have x1 : ((w2.setCell ⟨P, 0, none⟩ (.int .i64 (r.x + mx))).setCell ⟨P, 1, none⟩ (.int .i64 (r.y + my))).cell? ⟨w.heap.size + 2, 1, none⟩ = some (.int .i64 my) := by
        rw [World.cell?_setCell_other _ _ _ _ (by first | (simp; done) | (simp; omega)), World.cell?_setCell_other _ _ _ _ (by first | (simp; done) | (simp; omega))]; exact n1
      have tc0 : w2.cell? ⟨w.heap.size, 0, none⟩ = some (.int .i64 0) := by rw [Lib.cell_of_heap hT2]; rfl
      have tc1 : w2.cell? ⟨w.heap.size, 1, none⟩ = some (.int .i64 0) := by rw [Lib.cell_of_heap hT2]; rfl
      have tf0 : w2.frozen? ⟨w.heap.size, 0, none⟩ = false := Lib.frozen_of_heap hT2 0
      have tf1 : w2.frozen? ⟨w.heap.size, 1, none⟩ = false := Lib.frozen_of_heap hT2 1
      have X0 := hide x0
      have X1 := hide x1
      clear hP2 hT2 hP3 hT3 hg3 hk02 x0 x1
      go_wp2_with fail
      go_still_tail 20, (by kernel_rfl)
      go_wp2_with fail
      have hT4 := heap_set (heap_set HT.out (.int .i64 mx) (j := 0)) (.int .i64 my) (j := 1)
      have hP4 : ((((w2.setCell ⟨P, 0, none⟩ (.int .i64 (r.x + mx))).setCell ⟨P, 1, none⟩ (.int .i64 (r.y + my))).setCell ⟨w.heap.size, 0, none⟩ (.int .i64 mx)).setCell ⟨w.heap.size, 1, none⟩ (.int .i64 my)).heap[P]? = _ := (Below.heap_setCell _ ⟨w.heap.size, 1, none⟩ _ _ (show P ≠ w.heap.size by omega)).trans ((Below.heap_setCell _ ⟨w.heap.size, 0, none⟩ _ _ (show P ≠ w.heap.size by omega)).trans HP.out)
      have hg4 : w.grownBy ((((w2.setCell ⟨P, 0, none⟩ (.int .i64 (r.x + mx))).setCell ⟨P, 1, none⟩ (.int .i64 (r.y + my))).setCell ⟨w.heap.size, 0, none⟩ (.int .i64 mx)).setCell ⟨w.heap.size, 1, none⟩ (.int .i64 my)) (some P) := by
        have h := HG.out
        refine ⟨h.os, h.tape, h.output, by simpa [World.setCell] using h.size, fun j hj hne => ?_⟩
        rw [Below.heap_setCell _ ⟨w.heap.size, 1, none⟩ _ _ (show j ≠ w.heap.size by omega), Below.heap_setCell _ ⟨w.heap.size, 0, none⟩ _ _ (show j ≠ w.heap.size by omega)]
        exact h.block j hj hne
      clear HT HP HG X0 X1 n0 n1 c0 c1 f0 f1 tc0 tc1 tf0 tf1
      generalize (((w2.setCell ⟨P, 0, none⟩ (.int .i64 (r.x + mx))).setCell ⟨P, 1, none⟩ (.int .i64 (r.y + my))).setCell ⟨w.heap.size, 0, none⟩ (.int .i64 mx)).setCell ⟨w.heap.size, 1, none⟩ (.int .i64 my) = w4 at *
      have y0 : w4.cell? ⟨w.heap.size, 0, none⟩ = some (.int .i64 mx) := by rw [Lib.cell_of_heap hT4]; rfl
      have y1 : w4.cell? ⟨w.heap.size, 1, none⟩ = some (.int .i64 my) := by rw [Lib.cell_of_heap hT4]; rfl
      refine bodyPost_ret (v := .tuple #[.agg #[.int .i64 mx, .int .i64 my], .bool true]) (by simp [results, Tryd.results48, go_sem, y0, y1]) rfl ⟨by rw [hmv.out]; rfl, ?_, ?_⟩
      · rw [hs.out]; exact hP4
      · exact ⟨hg4.os, hg4.tape, hg4.output, hg4.size, hg4.block⟩

end Go.Proofs.YtincimgpgncomaaDoor
