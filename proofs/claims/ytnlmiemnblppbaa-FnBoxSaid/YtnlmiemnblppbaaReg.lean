/-
  Regions that draw their order, walked by hand: loads and plain operations first, then whatever writes; a condition on the world is kept.
-/
import Derived.OrdersHeld
import Derived.Deep.AppendLies
import Derived.Laws.OwnMore
import Derived.Test.YtnlmiemnblppbaaBase
namespace Go.Proofs.Ytnlmiemnblppbaa
open Go.RowKit

section
variable {P : Program} {ops : Array Oper} {Q : Exit → Act → World → Prop} {S : World → Prop}

theorem opH {i : Nat} {o : Oper} {K : Act → World → Prop} {a : Act} {w : World} (hi : ops[i]? = some o) (hw : Region.wanted o (yielded ops a.tmps) = true) (h : o.wp P a w K Q) : wpOp P ops Q i K a w := by
  unfold wpOp
  rw [hi]
  dsimp only
  rw [if_pos hw]
  exact .inl h

/-- An operation that is carried out at once: a block is made, a cell is written. -/
theorem opH_run {i : Nat} {o : Oper} {v : Value} {K : Act → World → Prop} {a : Act} {w w' : World} (hi : ops[i]? = some o) (hw : Region.wanted o (yielded ops a.tmps) = true) (hr : (execOp a.eval o).run P w = .ok (.value v) w')
    (h : K (a.put o.dst v) w') : wpOp P ops Q i K a w := by
  refine opH hi hw ?_
  unfold Oper.wp
  rw [hr]
  exact h

theorem opH_store {i : Nat} {o : Oper} {K : Act → World → Prop} {a : Act} {w w' : World} (hi : ops[i]? = some o) (hw : Region.wanted o (yielded ops a.tmps) = true) (hr : (execOp a.eval o).run P w = .ok .skip w')
    (h : K (a.put o.dst undef) w') : wpOp P ops Q i K a w := by
  refine opH hi hw ?_
  unfold Oper.wp
  rw [hr]
  exact h

theorem opH_call {i : Nat} {o : Oper} {f : FuncId} {args : Array Value} {R : Ending → World → Prop} {K : Act → World → Prop} {a : Act} {w : World} (hi : ops[i]? = some o) (hw : Region.wanted o (yielded ops a.tmps) = true)
    (hr : (execOp a.eval o).run P w = .ok (.enter f args) w) (hc : Calls P f args w R) (h : ∀ e w', R e w' → ∃ v, e = .returned v ∧ K (a.put o.dst v) w') : wpOp P ops Q i K a w := by
  refine opH hi hw ?_
  unfold Oper.wp
  rw [hr, Oper.upon_enter]
  refine hc.mono fun e w' hR => ?_
  obtain ⟨v, rfl, hk⟩ := h e w' hR
  exact hk

theorem run_append_any {w : World} (t ty : TypeId) (base : Nat) (e : TypeId) (i : TypeInfo) (z : Value) (size bytes : Nat) (ht : P.underlying t = some (.slice e)) (hi : P.info? e = some i) (hz : i.zero = some z)
    (hsize : i.size = size) (hby : i.bytes = bytes) (hzs : z.cells.size = size) (hsz : 0 < size)
    (g n cap : Nat) (xs : List Value) (hown : w.ownsRow base e size (.slice (some ⟨g, 0, none⟩) n cap) n xs)
    (ad : Addr) (m c : Nat) (news : List Value) (hl : news.length = m * size) (hnews : ∀ (j : Nat) u, news[j]? = some u → w.cell? (ad.add j) = some u) (h1 : ∀ u ∈ news, u.oneCell' = true)
    (h63 : n + m ≤ 1000000) (hby2 : bytes ≤ 1024) (hbase : base ≤ w.heap.size) :
    ∃ g' cap' w', (Builtin.append_ #[t, t] ty #[.slice (some ⟨g, 0, none⟩) n cap, .slice (some ad) m c]).run P w = .ok (.slice (some ⟨g', 0, none⟩) (n + m) cap') w' ∧
      w'.ownsRow base e size (.slice (some ⟨g', 0, none⟩) (n + m) cap') (n + m) (xs ++ news) ∧ w.grownBy w' (some g) ∧ (g' = g ∨ g' = w.heap.size) ∧ base ≤ g := by
  have hbg := (hown.lt g rfl).1
  have hmul : (n + m) * bytes ≤ 1000000 * 1024 := Nat.mul_le_mul h63 hby2
  by_cases hm : 0 < m
  · obtain ⟨g', cap', w', h2, h3, h4, h5, _⟩ := run_append_lies (P := P) (w := w) t ty base e i z size bytes ht hi hz hsize hby hzs hsz _ n xs hown ad m c news hl hnews h1 hm (by unfold maxLen; omega) (by omega) hbase _ rfl
    refine ⟨g', cap', w', h2, h3, h4, ?_, hbg⟩
    rcases h5 with h | h
    · exact .inl (by simpa [Value.ownBlock] using h.symm)
    · exact .inr h
  · obtain rfl : m = 0 := by omega
    have hcap : n + 0 ≤ cap := by
      rcases hown.2 with ⟨h', _⟩ | ⟨g', cap', cur, h', _, _, hn, _⟩
      · simp at h'
      · simp only [Value.slice.injEq, Option.some.injEq, Addr.mk.injEq, and_true, true_and] at h'
        omega
    obtain ⟨w', h2, h3, h4⟩ := run_append_fits (P := P) (w := w) base t ty e i size ht hi hsize g n cap xs hown ad 0 c news hl hnews h1 hcap
    exact ⟨g, cap, w', h2, h3, h4, .inl rfl, hbg⟩

theorem wp_append_any {w : World} {o : Oper} {a : Act} {K : Act → World → Prop} (s x : Operand) (t : TypeId) (ho : o.op = .call { callee := .builtin .append, args := #[s, x], argTypes := #[t, t] })
    (base : Nat) (e : TypeId) (ti : TypeInfo) (z : Value) (size bytes : Nat) (ht : P.underlying t = some (.slice e)) (hti : P.info? e = some ti) (hz : ti.zero = some z)
    (hsize : ti.size = size) (hby : ti.bytes = bytes) (hzs : z.cells.size = size) (hsz : 0 < size)
    (g n cap : Nat) (xs : List Value) (hs : a.eval s = .slice (some ⟨g, 0, none⟩) n cap) (hown : w.ownsRow base e size (.slice (some ⟨g, 0, none⟩) n cap) n xs)
    (ad : Addr) (m c : Nat) (news : List Value) (hx : a.eval x = .slice (some ad) m c) (hl : news.length = m * size) (hnews : ∀ (j : Nat) u, news[j]? = some u → w.cell? (ad.add j) = some u) (h1 : ∀ u ∈ news, u.oneCell' = true)
    (h63 : n + m ≤ 1000000) (hby2 : bytes ≤ 1024) (hbase : base ≤ w.heap.size) (N : Nat) (hN : n + m = N) (ys : List Value) (hys : xs ++ news = ys)
    (h : ∀ g' cap' w', w'.ownsRow base e size (.slice (some ⟨g', 0, none⟩) N cap') N ys → w.grownBy w' (some g) → (g' = g ∨ g' = w.heap.size) → base ≤ g → K (a.put o.dst (.slice (some ⟨g', 0, none⟩) N cap')) w') : o.wp P a w K Q := by
  subst hN
  subst hys
  obtain ⟨g', cap', w', hr, h2, h3, h4, h5⟩ := run_append_any (P := P) t o.type base e ti z size bytes ht hti hz hsize hby hzs hsz g n cap xs hown ad m c news hl hnews h1 h63 hby2 hbase
  unfold Oper.wp execOp
  simp only [ho, resolve, invoke, builtin, Sem.run_bind, Sem.run_pure, Result.andThen_ok, List.map_toArray, List.map_cons, List.map_nil, hs, hx, hr]
  exact h g' cap' w' h2 h3 h4 h5

theorem wpList_append_any {w : World} {rest : List Oper} {o : Oper} {a : Act} (hgd : o.guard = none) (s x : Operand) (t : TypeId) (ho : o.op = .call { callee := .builtin .append, args := #[s, x], argTypes := #[t, t] })
    (base : Nat) (e : TypeId) (ti : TypeInfo) (z : Value) (size bytes : Nat) (ht : P.underlying t = some (.slice e)) (hti : P.info? e = some ti) (hz : ti.zero = some z)
    (hsize : ti.size = size) (hby : ti.bytes = bytes) (hzs : z.cells.size = size) (hsz : 0 < size)
    (g n cap : Nat) (xs : List Value) (hs : a.eval s = .slice (some ⟨g, 0, none⟩) n cap) (hown : w.ownsRow base e size (.slice (some ⟨g, 0, none⟩) n cap) n xs)
    (ad : Addr) (m c : Nat) (news : List Value) (hx : a.eval x = .slice (some ad) m c) (hl : news.length = m * size) (hnews : ∀ (j : Nat) u, news[j]? = some u → w.cell? (ad.add j) = some u) (h1 : ∀ u ∈ news, u.oneCell' = true)
    (h63 : n + m ≤ 1000000) (hby2 : bytes ≤ 1024) (hbase : base ≤ w.heap.size) (N : Nat) (hN : n + m = N) (ys : List Value) (hys : xs ++ news = ys)
    (h : ∀ g' cap' w', w'.ownsRow base e size (.slice (some ⟨g', 0, none⟩) N cap') N ys → w.grownBy w' (some g) → (g' = g ∨ g' = w.heap.size) → base ≤ g → wpList P ops Q rest (a.put o.dst (.slice (some ⟨g', 0, none⟩) N cap')) w') : wpList P ops Q (o :: rest) a w :=
  wpList_plain hgd fun _ hK => wp_append_any s x t ho base e ti z size bytes ht hti hz hsize hby hzs hsz g n cap xs hs hown ad m c news hx hl hnews h1 h63 hby2 hbase N hN ys hys fun g' cap' w' h2 h3 h4 h5 => hK _ _ (h g' cap' w' h2 h3 h4 h5)

/-- Cells to be appended, behind a step. -/
theorem news_kept {w w' : World} {b o : Nat} {xs : List Value} (h : ∀ (j : Nat) u, xs[j]? = some u → w.cell? ((⟨b, o, none⟩ : Addr).add j) = some u) (hk : Below w.heap.size w w') : ∀ (j : Nat) u, xs[j]? = some u → w'.cell? ((⟨b, o, none⟩ : Addr).add j) = some u := by
  intro j u hu
  exact kept_cell hk (h j u hu)

theorem news_grown {w w' : World} {b o : Nat} {row : Option Nat} {xs : List Value} (h : ∀ (j : Nat) u, xs[j]? = some u → w.cell? ((⟨b, o, none⟩ : Addr).add j) = some u) (hg : w.grownBy w' row) (hr : row ≠ some b) : ∀ (j : Nat) u, xs[j]? = some u → w'.cell? ((⟨b, o, none⟩ : Addr).add j) = some u := by
  intro j u hu
  have h0 := h j u hu
  rw [Addr.add_lit] at h0 ⊢
  exact (World.cell?_of_block (hg.block b (World.block_lt_of_cell? w ⟨b, o + j, none⟩ h0) (fun e => hr e.symm))).trans h0

theorem news_new (w : World) (cs : Array Value) (T : TypeId) : ∀ (j : Nat) u, cs.toList[j]? = some u → (w.alloc (.cells cs T)).cell? ((⟨w.heap.size, 0, none⟩ : Addr).add j) = some u := by
  intro j u hu
  rw [Addr.add_lit, cell_of_row _ _ _ _ _ _ (heap_alloc_new w _), Nat.zero_add]
  simpa using hu

end
end Go.Proofs.Ytnlmiemnblppbaa
