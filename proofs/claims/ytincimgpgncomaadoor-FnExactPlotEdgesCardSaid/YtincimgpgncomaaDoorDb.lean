/-
  The steps as bytes; the pen before and between steps.
-/
import Derived.Test.YtincimgpgncomaaDoorDo
namespace Go.Proofs.YtincimgpgncomaaDoor
open Go.RowKit

/-- The steps as bytes of their own. -/
def BytesIn (G : Nat) (o : List UInt8) (w : World) : Prop := ∀ j (h : j < o.length), w.cell? ⟨G, j, none⟩ = some (.int .u8 (o[j].toNat : Int))

theorem bytes_made (o : List UInt8) (W : World) : ∃ cap W', (convert 9 26 (.string ⟨o.toArray⟩)).run Tryd.prog W = .ok (.slice (some ⟨W.heap.size, 0, none⟩) o.length cap) W' ∧ Below W.heap.size W W' ∧ BytesIn W.heap.size o W' ∧ W.heap.size < W'.heap.size := by
  have h := run_bytes_of_string W 9 26 5 ⟨o.toArray⟩ Tryd.underlying9 Tryd.underlying26 Tryd.underlying5
  have hsz : (⟨o.toArray⟩ : ByteArray).size = o.length := List.size_toArray
  rw [hsz] at h
  refine ⟨_, _, h, kept_alloc (kept_drew W) _, fun j hj => ?_, by simp⟩
  have hn := heap_alloc_new W.drew (.cells (bytesRow ⟨o.toArray⟩ (grownCap W o.length 0 5)) 5 ((bytesRow ⟨o.toArray⟩ (grownCap W o.length 0 5)).size, (bytesRow ⟨o.toArray⟩ (grownCap W o.length 0 5)).size + 1))
  refine (Lib.cell_of_heap hn j).trans ?_
  unfold bytesRow
  rw [Array.getElem?_append_left (by simpa using hj)]
  simp [hj]

theorem bytes_grown {G P : Nat} {o : List UInt8} {w w' : World} (h : BytesIn G o w) (hg : w.grownBy w' (some P)) (hne : G ≠ P) : BytesIn G o w' := fun j hj =>
  (World.cell?_of_block (hg.block G (World.block_lt_of_cell? w _ (h j hj)) (by simpa using hne))).trans (h j hj)

theorem bytes_kept {G : Nat} {o : List UInt8} {w w' : World} (h : BytesIn G o w) (hk : Below w.heap.size w w') : BytesIn G o w' := fun j hj => kept_cell hk (h j hj)

theorem pl_new (w : World) : PlAt w.heap.size run0 (w.alloc (.cells #[.int .i64 0, .int .i64 0, .int .i64 0, .bool false] 59)) := heap_alloc_new w _

theorem pl_kept {P : Nat} {r : Run} {w w' : World} (h : PlAt P r w) (hk : Below w.heap.size w w') : PlAt P r w' := (hk.block P (Array.getElem?_eq_some_iff.1 h).1).trans h

theorem run_taken {o : List UInt8} (hl : o.length ≤ 10000) (t : Nat) : RunOk 10000 (runB (o.take t)) := by
  obtain ⟨h1, h2, h3, h4, h5, h6, h7⟩ := runB_ok (o.take t)
  rw [List.length_take] at *
  exact ⟨by omega, by omega, by omega, by omega, h5, by omega, by omega⟩

theorem run_next {o : List UInt8} {t : Nat} (h : t < o.length) : runB (o.take (t + 1)) = stepR (runB (o.take t)) o[t] := by rw [List.take_succ_eq_append_getElem h, runB_snoc]

end Go.Proofs.YtincimgpgncomaaDoor
