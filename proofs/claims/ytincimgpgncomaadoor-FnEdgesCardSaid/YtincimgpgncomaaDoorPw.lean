/-
  The reference's pen: l12Dir, l12Edge.
-/
import Derived.Test.YtincimgpgncomaaDoorPg
import Derived.Test.YtincimgpgncomaaDoorPe
import Derived.Test.YtincimgpgncomaaDoorMv2
namespace Go.Proofs.YtincimgpgncomaaDoor
open Go.RowKit

/-- A direction, or -1. -/
def dirI (b : UInt8) : Int := match dirB b with
  | some d => d
  | none => -1

set_option maxHeartbeats 1000000 in
theorem l12Dir_ok (s : ByteArray) (b : UInt8) (w : World) (hs : s.toList = [b]) (hb : isStepB b) : Calls Tryd.prog 62 #[.string s] w fun e w' => e = .returned (.int .i64 (dirI b)) ∧ w = w' := by
  have hc : ∀ c : UInt8, (s.toList == [c]) = decide (b = c) := fun c => by rw [hs]; by_cases h : b = c <;> simp [h]
  clear hs
  rcases hb with rfl | rfl | rfl | rfl | rfl | rfl | rfl
  all_goals
    first | (have h1 : (s.toList == [101]) = true := by rw [hc]; decide) | (have h1 : (s.toList == [101]) = false := by rw [hc]; decide)
    first | (have h2 : (s.toList == [110]) = true := by rw [hc]; decide) | (have h2 : (s.toList == [110]) = false := by rw [hc]; decide)
    first | (have h3 : (s.toList == [119]) = true := by rw [hc]; decide) | (have h3 : (s.toList == [119]) = false := by rw [hc]; decide)
    first | (have h4 : (s.toList == [115]) = true := by rw [hc]; decide) | (have h4 : (s.toList == [115]) = false := by rw [hc]; decide)
    clear hc
    go_enter Tryd.func62, Tryd.ntmps62
    go_wp2_with fail
    go_ret
    exact ⟨rfl, rfl⟩

def edV (e : Int × Int × Int × Int) : Value := .agg #[.int .i64 e.1, .int .i64 e.2.1, .int .i64 e.2.2.1, .int .i64 e.2.2.2]

set_option maxHeartbeats 1000000 in
theorem l12Edge_ok (ax ay bx by' : Int) (w : World) : Calls Tryd.prog 63 #[.agg #[.int .i64 ax, .int .i64 ay], .agg #[.int .i64 bx, .int .i64 by']] w fun e w' => e = .returned (edV (edgeB ax ay bx by')) ∧ Below w.heap.size w w' := by
  unfold edgeB
  by_cases h1 : bx < ax
  · rw [if_pos (.inl h1)]
    go_enter Tryd.func63, Tryd.ntmps63
    go_wp2_with fail
    refine bodyPost_ret (v := edV (bx, by', ax, ay)) (by simp [results, Tryd.results63, go_sem, edV]) rfl ⟨rfl, ?_⟩
    exact kept_alloc (kept_alloc (kept_new _ _) _) _
  · by_cases h2 : bx = ax
    · subst h2
      by_cases h3 : by' < ay
      · rw [if_pos (.inr ⟨rfl, h3⟩)]
        go_enter Tryd.func63, Tryd.ntmps63
        go_wp2_with fail
        refine bodyPost_ret (v := edV (bx, by', bx, ay)) (by simp [results, Tryd.results63, go_sem, edV]) rfl ⟨rfl, ?_⟩
        exact kept_alloc (kept_alloc (kept_new _ _) _) _
      · rw [if_neg (by omega)]
        go_enter Tryd.func63, Tryd.ntmps63
        go_wp2_with fail
        refine bodyPost_ret (v := edV (bx, ay, bx, by')) (by simp [results, Tryd.results63, go_sem, edV]) rfl ⟨rfl, ?_⟩
        exact kept_alloc (kept_alloc (kept_new _ _) _) _
    · rw [if_neg (by omega)]
      have h2' : (bx == ax) = false := beq_eq_false_iff_ne.2 h2
      go_enter Tryd.func63, Tryd.ntmps63
      go_wp2_with fail
      refine bodyPost_ret (v := edV (ax, ay, bx, by')) (by simp [results, Tryd.results63, go_sem, edV]) rfl ⟨rfl, ?_⟩
      exact kept_alloc (kept_alloc (kept_new _ _) _) _

/-- The cells of a list of edges. -/
def edCells (es : List (Int × Int × Int × Int)) : List Value := es.flatMap fun e => [.int .i64 e.1, .int .i64 e.2.1, .int .i64 e.2.2.1, .int .i64 e.2.2.2]

theorem edCells_len (es : List (Int × Int × Int × Int)) : (edCells es).length = es.length * 4 := by
  induction es with
  | nil => rfl
  | cons e es ih => simp [edCells] at ih ⊢; omega

theorem edCells_snoc (es : List (Int × Int × Int × Int)) (e : Int × Int × Int × Int) : edCells (es ++ [e]) = edCells es ++ [.int .i64 e.1, .int .i64 e.2.1, .int .i64 e.2.2.1, .int .i64 e.2.2.2] := by simp [edCells]
theorem mvCells_snoc (ms : List (Int × Int)) (m : Int × Int) : mvCells (ms ++ [m]) = mvCells ms ++ [.int .i64 m.1, .int .i64 m.2] := by simp [mvCells]

theorem Tryd.infoEd : (Tryd.prog.info? 62).map (fun i => (i.zero, i.size, i.bytes)) = some (some (.agg #[.int .i64 0, .int .i64 0, .int .i64 0, .int .i64 0]), 4, 32) := by kernel_rfl

def penCells (r : Run) (gm cm ge ce : Nat) : Array Value :=
  #[.int .i64 r.x, .int .i64 r.y, .bool r.down, .int .i64 r.turn, .slice (some ⟨gm, 0, none⟩) r.moves.length cm, .slice (some ⟨ge, 0, none⟩) r.edges.length ce]

/-- A pen in block P: its moves and edges in blocks of their own, from B on. -/
def PenAt (B P : Nat) (r : Run) (w : World) : Prop :=
  ∃ gm cm ge ce, w.heap[P]? = some (.cells (penCells r gm cm ge ce) 56 (0, 0)) ∧ w.ownsRow B 30 2 (.slice (some ⟨gm, 0, none⟩) r.moves.length cm) r.moves.length (mvCells r.moves) ∧
    w.ownsRow B 62 4 (.slice (some ⟨ge, 0, none⟩) r.edges.length ce) r.edges.length (edCells r.edges) ∧ gm ≠ P ∧ ge ≠ P ∧ gm ≠ ge

theorem heap_set {w : World} {P j : Nat} {cs : Array Value} {T : TypeId} (h : w.heap[P]? = some (.cells cs T (0, 0))) (u : Value) : (w.setCell ⟨P, j, none⟩ u).heap[P]? = some (.cells (cs.setIfInBounds j u) T (0, 0)) := by
  simp [World.setCell, Array.getElem?_modify, h]

theorem grown_set (w : World) (P j : Nat) (u : Value) : w.grownBy (w.setCell ⟨P, j, none⟩ u) (some P) :=
  ⟨rfl, rfl, rfl, by simp [World.setCell], fun k _ hk => Below.heap_setCell _ _ _ _ (fun e => hk (by simp [e]))⟩

theorem slice_other {w w' : World} {B P g n cap : Nat} {e : TypeId} {size : Nat} {xs : List Value} (h : w.ownsRow B e size (.slice (some ⟨g, 0, none⟩) n cap) n xs) (hg : w.grownBy w' (some P)) (hne : g ≠ P) :
    w'.ownsRow B e size (.slice (some ⟨g, 0, none⟩) n cap) n xs := h.kept hg (.inr (by simp [Value.ownBlock, hne]))

theorem pen_new (w : World) : PenAt w.heap.size (w.heap.size + 2) run0 (((w.alloc (.cells #[] 30)).alloc (.cells #[] 62)).alloc (.cells (penCells run0 w.heap.size 0 (w.heap.size + 1) 0) 56)) := by
  have h1 := World.ownsRow_lit (base := w.heap.size) (e := 30) (size := 2) w #[] 0 (Nat.le_refl _) (by decide) (by simp)
  have h2 := World.ownsRow_lit (base := w.heap.size) (e := 62) (size := 4) (w.alloc (.cells #[] 30)) #[] 0 (by simp) (by decide) (by simp)
  have hs : (w.alloc (.cells #[] 30)).heap.size = w.heap.size + 1 := by simp
  have hs2 : ((w.alloc (.cells #[] 30)).alloc (.cells #[] 62)).heap.size = w.heap.size + 2 := by simp
  rw [hs] at h2
  have h3 := heap_alloc_new ((w.alloc (.cells #[] 30)).alloc (.cells #[] 62)) (.cells (penCells run0 w.heap.size 0 (w.heap.size + 1) 0) 56)
  rw [hs2] at h3
  exact ⟨w.heap.size, 0, w.heap.size + 1, 0, h3, owns_kept (owns_kept h1 (kept_new _ _)) (kept_new _ _), owns_kept h2 (kept_new _ _), by omega, by omega, by omega⟩

theorem pen_drew {B P : Nat} {r : Run} {w : World} (h : PenAt B P r w) : PenAt B P r w.drew := h

theorem text_is (b c : UInt8) : (({ data := #[b] } : ByteArray).toList == [c]) = decide (b = c) := by
  have e : ({ data := #[b] } : ByteArray).toList = [b] := by rw [bytes_list]
  rw [e]
  by_cases h : b = c <;> simp [h]

/-- A pen on the way: what its block holds, its two lists, other cells that are kept. -/
structure PenW (B P : Nat) (cs : Array Value) (gm cm : Nat) (ms : List (Int × Int)) (ge ce : Nat) (es : List (Int × Int × Int × Int)) (oth : List (Addr × Value)) (W0 W : World) : Prop where
  hb : Below B W0 W
  hP : W.heap[P]? = some (.cells cs 56 (0, 0))
  om : W.ownsRow B 30 2 (.slice (some ⟨gm, 0, none⟩) ms.length cm) ms.length (mvCells ms)
  oe : W.ownsRow B 62 4 (.slice (some ⟨ge, 0, none⟩) es.length ce) es.length (edCells es)
  n1 : gm ≠ P
  n2 : ge ≠ P
  n3 : gm ≠ ge
  ot : ∀ x ∈ oth, W.cell? x.1 = some x.2 ∧ x.1.block ≠ P ∧ x.1.block ≠ gm ∧ x.1.block ≠ ge

section
variable {B P : Nat} {cs : Array Value} {gm cm : Nat} {ms : List (Int × Int)} {ge ce : Nat} {es : List (Int × Int × Int × Int)} {oth : List (Addr × Value)} {W0 W : World}

theorem PenW.lt (h : PenW B P cs gm cm ms ge ce es oth W0 W) : P < W.heap.size := (Array.getElem?_eq_some_iff.1 h.hP).1

theorem PenW.kept (h : PenW B P cs gm cm ms ge ce es oth W0 W) (hB : B ≤ W.heap.size) {W' : World} (hk : Below W.heap.size W W') : PenW B P cs gm cm ms ge ce es oth W0 W' :=
  ⟨h.hb.trans (hk.mono hB), (hk.block P h.lt).trans h.hP, owns_kept h.om hk, owns_kept h.oe hk, h.n1, h.n2, h.n3, fun x hx => ⟨kept_cell hk (h.ot x hx).1, (h.ot x hx).2⟩⟩

theorem PenW.more (h : PenW B P cs gm cm ms ge ce es oth W0 W) (a : Addr) (v : Value) (hc : W.cell? a = some v) (h1 : a.block ≠ P) (h2 : a.block ≠ gm) (h3 : a.block ≠ ge) : PenW B P cs gm cm ms ge ce es ((a, v) :: oth) W0 W :=
  ⟨h.hb, h.hP, h.om, h.oe, h.n1, h.n2, h.n3, fun x hx => by
    rcases List.mem_cons.1 hx with rfl | hx
    · exact ⟨hc, h1, h2, h3⟩
    · exact h.ot x hx⟩

theorem PenW.cell (h : PenW B P cs gm cm ms ge ce es oth W0 W) (j : Nat) : W.cell? ⟨P, j, none⟩ = cs[j]? := Lib.cell_of_heap h.hP j
theorem PenW.frozen (h : PenW B P cs gm cm ms ge ce es oth W0 W) (j : Nat) : W.frozen? ⟨P, j, none⟩ = false := Lib.frozen_of_heap h.hP j

theorem PenW.appM (h : PenW B P cs gm cm ms ge ce es oth W0 W) {g' cap' : Nat} {m : Int × Int} {W' : World} (own : W'.ownsRow B 30 2 (.slice (some ⟨g', 0, none⟩) (ms.length + 1) cap') (ms.length + 1) (mvCells (ms ++ [m])))
    (hgr : W.grownBy W' (some gm)) (hor : g' = gm ∨ g' = W.heap.size) (hBg : B ≤ gm) : PenW B P cs g' cap' (ms ++ [m]) ge ce es oth W0 W' := by
  have hlt := h.lt
  have hge := (h.oe.lt ge rfl).2
  refine ⟨h.hb.trans ⟨hgr.os, hgr.tape, hgr.output, hgr.size, fun k hk => ?_⟩, (hgr.block P hlt (by simp [Ne.symm h.n1])).trans h.hP, by simpa using own, slice_other h.oe hgr (Ne.symm h.n3), ?_, h.n2, ?_, fun x hx => ?_⟩
  · rcases Nat.lt_or_ge k W.heap.size with hk' | hk'
    · exact hgr.block k hk' (by simp; omega)
    · have hBs : B ≤ W.heap.size := Nat.le_trans hBg (Nat.le_of_lt (h.om.lt gm rfl).2)
      omega
  · rcases hor with rfl | rfl
    · exact h.n1
    · omega
  · rcases hor with rfl | rfl
    · exact h.n3
    · omega
  · obtain ⟨hc, x1, x2, x3⟩ := h.ot x hx
    have hxl := World.block_lt_of_cell? W _ hc
    refine ⟨(World.cell?_of_block (hgr.block _ hxl (by simp [x2]))).trans hc, x1, ?_, x3⟩
    rcases hor with rfl | rfl
    · exact x2
    · omega

theorem PenW.appE (h : PenW B P cs gm cm ms ge ce es oth W0 W) {g' cap' : Nat} {e : Int × Int × Int × Int} {W' : World} (own : W'.ownsRow B 62 4 (.slice (some ⟨g', 0, none⟩) (es.length + 1) cap') (es.length + 1) (edCells (es ++ [e])))
    (hgr : W.grownBy W' (some ge)) (hor : g' = ge ∨ g' = W.heap.size) (hBg : B ≤ ge) : PenW B P cs gm cm ms g' cap' (es ++ [e]) oth W0 W' := by
  have hlt := h.lt
  have hgm := (h.om.lt gm rfl).2
  refine ⟨h.hb.trans ⟨hgr.os, hgr.tape, hgr.output, hgr.size, fun k hk => ?_⟩, (hgr.block P hlt (by simp [Ne.symm h.n2])).trans h.hP, slice_other h.om hgr h.n3, by simpa using own, h.n1, ?_, ?_, fun x hx => ?_⟩
  · rcases Nat.lt_or_ge k W.heap.size with hk' | hk'
    · exact hgr.block k hk' (by simp; omega)
    · have hBs : B ≤ W.heap.size := Nat.le_trans hBg (Nat.le_of_lt (h.oe.lt ge rfl).2)
      omega
  · rcases hor with rfl | rfl
    · exact h.n2
    · omega
  · rcases hor with rfl | rfl
    · exact h.n3
    · omega
  · obtain ⟨hc, x1, x2, x3⟩ := h.ot x hx
    have hxl := World.block_lt_of_cell? W _ hc
    refine ⟨(World.cell?_of_block (hgr.block _ hxl (by simp [x3]))).trans hc, x1, x2, ?_⟩
    rcases hor with rfl | rfl
    · exact x3
    · omega

theorem PenW.put (h : PenW B P cs gm cm ms ge ce es oth W0 W) (hBP : B ≤ P) (j : Nat) (u : Value) : PenW B P (cs.setIfInBounds j u) gm cm ms ge ce es oth W0 (W.setCell ⟨P, j, none⟩ u) :=
  ⟨h.hb.setCell (p := ⟨P, j, none⟩) hBP u, heap_set h.hP u, slice_other h.om (grown_set _ _ _ _) h.n1, slice_other h.oe (grown_set _ _ _ _) h.n2, h.n1, h.n2, h.n3, fun x hx => by
    obtain ⟨hc, x1, x2, x3⟩ := h.ot x hx
    refine ⟨?_, x1, x2, x3⟩
    rw [World.cell?_setCell_other _ _ _ _ (fun e => x1 (by rw [← e]))]
    exact hc⟩

theorem PenW.toAt {r : Run} (h : PenW B P (penCells r gm cm ge ce) gm cm r.moves ge ce r.edges oth W0 W) : PenAt B P r W := ⟨gm, cm, ge, ce, h.hP, h.om, h.oe, h.n1, h.n2, h.n3⟩
end

end Go.Proofs.YtincimgpgncomaaDoor
