/-
  A map whose keys are edges: what a store leaves, its length; the number of different edges.
-/
import Derived.Test.YtincimgpgncomaaDoorMo
import Derived.Maps.OwnSet
import Derived.DeepKeys5
namespace Go.Proofs.YtincimgpgncomaaDoor
open Go.RowKit Go.Maps

def edK (e : Int × Int × Int × Int) : Value := .agg #[.int .i64 e.1, .int .i64 e.2.1, .int .i64 e.2.2.1, .int .i64 e.2.2.2]

theorem edK_inj {a b : Int × Int × Int × Int} (h : edK a = edK b) : a = b := by
  obtain ⟨a1, a2, a3, a4⟩ := a
  obtain ⟨b1, b2, b3, b4⟩ := b
  simp [edK] at h
  obtain ⟨rfl, rfl, rfl, rfl⟩ := h
  rfl

/-- The different edges, in the order in which they came. -/
def addE (dl : List (Int × Int × Int × Int)) (e : Int × Int × Int × Int) : List (Int × Int × Int × Int) := if e ∈ dl then dl else dl ++ [e]
def diffE (es : List (Int × Int × Int × Int)) : List (Int × Int × Int × Int) := es.foldl addE []

/-- The map in block b has these keys. -/
def SetAt (b : Nat) (dl : List (Int × Int × Int × Int)) (w : World) : Prop := ∃ es clock, w.heap[b]? = some (.map es clock) ∧ es.toList.map (·.key) = dl.map edK

theorem Tryd.laidOut' : laidOutB Tryd.prog = true := by kernel_rfl
theorem edge_law : WideMaps.KeyLaw Tryd.prog 64 := deep_law_gate Tryd.laidOut' (by decide +kernel) (by decide +kernel) (by kernel_rfl) (by kernel_rfl)

theorem lits_int (d : Nat) {n : Int} (h : (Lit.int .i64 n).wf = true) : Tryd.prog.keyLits (d + 1) 3 [.int .i64 n] = some [.int .i64 n] := by
  simp [Program.keyLits, Tryd.underlying3, h]

theorem cells_int : Tryd.prog.cellsOf 3 = 1 := by kernel_rfl
theorem cells_mv : Tryd.prog.cellsOf 30 = 2 := by kernel_rfl
theorem cells_ed : Tryd.prog.cellsOf 64 = 4 := by kernel_rfl

theorem lits_mv (d : Nat) {x y : Int} (h1 : (Lit.int .i64 x).wf = true) (h2 : (Lit.int .i64 y).wf = true) : Tryd.prog.keyLits (d + 2) 30 [.int .i64 x, .int .i64 y] = some [.int .i64 x, .int .i64 y] := by
  simp [Program.keyLits, Tryd.underlying30, Tryd.underlying3, cells_int, cells_mv, h1, h2]

theorem lits_ed (d : Nat) {a b c e : Int} (h1 : (Lit.int .i64 a).wf = true) (h2 : (Lit.int .i64 b).wf = true) (h3 : (Lit.int .i64 c).wf = true) (h4 : (Lit.int .i64 e).wf = true) :
    Tryd.prog.keyLits (d + 3) 64 [.int .i64 a, .int .i64 b, .int .i64 c, .int .i64 e] = some [.int .i64 a, .int .i64 b, .int .i64 c, .int .i64 e] := by
  simp [Program.keyLits, Tryd.underlying64, Tryd.underlying30, Tryd.underlying3, cells_int, cells_mv, cells_ed, h1, h2, h3, h4, List.range_succ]

theorem wf_small {n : Int} (h1 : -10001 ≤ n) (h2 : n ≤ 10001) : (Lit.int .i64 n).wf = true := by
  have e1 : IntKind.i64.min = -9223372036854775808 := by decide
  have e2 : IntKind.i64.max = 9223372036854775807 := by decide
  simp [Lit.wf, e1, e2]
  omega

def smallE (e : Int × Int × Int × Int) : Prop := (-10001 ≤ e.1 ∧ e.1 ≤ 10001) ∧ (-10001 ≤ e.2.1 ∧ e.2.1 ≤ 10001) ∧ (-10001 ≤ e.2.2.1 ∧ e.2.2.1 ≤ 10001) ∧ -10001 ≤ e.2.2.2 ∧ e.2.2.2 ≤ 10001

theorem edge_key {e : Int × Int × Int × Int} (h : smallE e) : ∃ l, keyOf Tryd.prog 64 (edK e) = some l := by
  obtain ⟨a, b, c, d⟩ := e
  obtain ⟨⟨a1, a2⟩, ⟨b1, b2⟩, ⟨c1, c2⟩, d1, d2⟩ := h
  have hts : Tryd.prog.types.size = 136 := by kernel_rfl
  obtain ⟨n, hn⟩ : ∃ n, Tryd.prog.types.size + 1 = n + 3 := ⟨136 - 2, by rw [hts]⟩
  have hk : Tryd.prog.keyType 64 = true := by kernel_rfl
  have hf : (edK (a, b, c, d)).formed Tryd.prog 64 = true := by
    simp [edK, Value.formed, cells_ed, Tryd.underlying64]
  refine ⟨.string (keyBytes [.int .i64 a, .int .i64 b, .int .i64 c, .int .i64 d]), ?_⟩
  unfold keyOf
  rw [Tryd.underlying64]
  simp only [hk, hf, Bool.and_self, if_true, hn]
  have := lits_ed n (wf_small a1 a2) (wf_small b1 b2) (wf_small c1 c2) (wf_small d1 d2)
  show Option.map _ (Tryd.prog.keyLits (n + 3) _ [.int .i64 a, .int .i64 b, .int .i64 c, .int .i64 d]) = _
  rw [this]
  rfl

theorem set_new (w : World) : SetAt w.heap.size [] (w.alloc (.map #[] 0)) := ⟨#[], 0, heap_alloc_new w _, rfl⟩

theorem set_grown {b : Nat} {dl : List (Int × Int × Int × Int)} {w w' : World} {row : Option Nat} (h : SetAt b dl w) (hg : w.grownBy w' row) (hne : some b ≠ row) : SetAt b dl w' := by
  obtain ⟨es, clock, h1, h2⟩ := h
  exact ⟨es, clock, (hg.block b (Array.getElem?_eq_some_iff.1 h1).1 hne).trans h1, h2⟩

theorem set_len {b : Nat} {dl : List (Int × Int × Int × Int)} {w : World} (h : SetAt b dl w) (ty : TypeId) : (Builtin.len_ #[63] ty #[.map (some b)]).run Tryd.prog w = .ok (.int .i64 dl.length) w := by
  obtain ⟨es, clock, h1, h2⟩ := h
  have e : es.size = dl.length := by
    have := congrArg List.length h2
    simpa using this
  rw [← e]
  simp [Builtin.len_, run_underlying Tryd.underlying63, MapKept.run_getObj_map h1, goInt, Result.andThen]

theorem set_store {b : Nat} {dl : List (Int × Int × Int × Int)} {w : World} (h : SetAt b dl w) (hd : ∀ x ∈ dl, smallE x) {e : Int × Int × Int × Int} (he : smallE e) (val : Value) :
    ∃ w', (Instr.mapUpdate 63 (.map (some b)) (edK e) val).run Tryd.prog w = .ok () w' ∧ SetAt b (addE dl e) w' ∧ w.grownBy w' (some b) := by
  obtain ⟨es, clock, h1, h2⟩ := h
  obtain ⟨l, hl⟩ := edge_key he
  have hks : ∀ x ∈ es.toList, ∃ l, keyOf Tryd.prog 64 x.key = some l := by
    intro x hx
    have : x.key ∈ es.toList.map (·.key) := List.mem_map.2 ⟨x, hx, rfl⟩
    rw [h2] at this
    obtain ⟨y, hy, e⟩ := List.mem_map.1 this
    rw [← e]
    exact edge_key (hd y hy)
  rcases edge_law.find w hl es.toList hks with ⟨hf, hn⟩ | ⟨j, x, hf, hx, hk⟩
  · have hnin : e ∉ dl := fun h => by
      have : edK e ∈ es.toList.map (·.key) := by rw [h2]; exact List.mem_map.2 ⟨e, h, rfl⟩
      obtain ⟨x, hx, hk⟩ := List.mem_map.1 this
      exact hn x hx hk
    refine ⟨ChangeMaps.setBlock w b (.map (es.push { key := edK e, val := val, born := clock }) (clock + 1)), by simp [Instr.mapUpdate, run_underlying Tryd.underlying63, MapKept.run_getObj_map h1, edge_law.check w false hl, hf, MapKept.run_setObj_map _ h1, Result.andThen, ChangeMaps.setBlock],
      ⟨_, _, ChangeMaps.heap_setBlock_same h1 _, ?_⟩, ⟨rfl, rfl, rfl, by simp [ChangeMaps.setBlock], fun i _ hi => ChangeMaps.heap_setBlock_other h1 _ (fun e => hi (by rw [e]))⟩⟩
    rw [addE, if_neg hnin]
    simp [h2]
  · have hx' : es.toList[j]? = some x := hx
    have hxs : es[j]? = some x := by simpa using hx'
    have hin : e ∈ dl := by
      have : edK e ∈ es.toList.map (·.key) := List.mem_map.2 ⟨x, List.mem_of_getElem? hx', hk⟩
      rw [h2] at this
      obtain ⟨y, hy, ey⟩ := List.mem_map.1 this
      rw [← edK_inj ey]
      exact hy
    refine ⟨ChangeMaps.setBlock w b (.map (es.modify j (fun e' => { e' with key := edK e, val := val })) clock), by simp [Instr.mapUpdate, run_underlying Tryd.underlying63, MapKept.run_getObj_map h1, edge_law.check w false hl, hf, hxs, hk, edge_law.stays w hl, MapKept.run_setObj_map _ h1, Result.andThen, ChangeMaps.setBlock],
      ⟨_, _, ChangeMaps.heap_setBlock_same h1 _, ?_⟩, ⟨rfl, rfl, rfl, by simp [ChangeMaps.setBlock], fun i _ hi => ChangeMaps.heap_setBlock_other h1 _ (fun e => hi (by rw [e]))⟩⟩
    rw [addE, if_pos hin, ← h2]
    apply List.ext_getElem?
    intro i
    simp only [List.getElem?_map, Array.getElem?_toList, Array.getElem?_modify]
    by_cases hij : j = i
    · subst hij
      rw [if_pos rfl, hxs]
      simp [hk]
    · rw [if_neg hij]

theorem diffE_snoc (es : List (Int × Int × Int × Int)) (e : Int × Int × Int × Int) : diffE (es ++ [e]) = addE (diffE es) e := by simp [diffE]

theorem mem_addE {dl : List (Int × Int × Int × Int)} {e x : Int × Int × Int × Int} : x ∈ addE dl e ↔ x ∈ dl ∨ x = e := by
  unfold addE
  split
  · rename_i h
    exact ⟨.inl, fun h' => h'.elim id (fun e' => e' ▸ h)⟩
  · simp

theorem mem_diffE (es : List (Int × Int × Int × Int)) (x : Int × Int × Int × Int) : x ∈ diffE es ↔ x ∈ es := by
  have h : ∀ (es dl : List (Int × Int × Int × Int)), x ∈ es.foldl addE dl ↔ x ∈ dl ∨ x ∈ es := by
    intro es
    induction es with
    | nil => intro dl; simp
    | cons e es ih =>
      intro dl
      rw [List.foldl_cons, ih, mem_addE]
      simp only [List.mem_cons]
      constructor
      · rintro ((h | h) | h)
        · exact .inl h
        · exact .inr (.inl h)
        · exact .inr (.inr h)
      · rintro (h | h | h)
        · exact .inl (.inl h)
        · exact .inl (.inr h)
        · exact .inr h
  simpa [diffE] using h es []

theorem diff_succ (es : List (Int × Int × Int × Int)) (t : Nat) (h : t < es.length) : (diffE (es.take (t + 1))).length = (diffE (es.take t)).length + if es[t] ∈ es.take t then 0 else 1 := by
  rw [List.take_succ_eq_append_getElem h, diffE_snoc, addE]
  by_cases hm : es[t] ∈ es.take t
  · rw [if_pos ((mem_diffE _ _).2 hm), if_pos hm, Nat.add_zero]
  · rw [if_neg (fun h' => hm ((mem_diffE _ _).1 h')), if_neg hm]
    simp

theorem diff_le (es : List (Int × Int × Int × Int)) : (diffE es).length ≤ es.length := by
  have h : ∀ (es dl : List (Int × Int × Int × Int)), (es.foldl addE dl).length ≤ dl.length + es.length := by
    intro es
    induction es with
    | nil => intro dl; simp
    | cons e es ih =>
      intro dl
      rw [List.foldl_cons]
      refine Nat.le_trans (ih _) ?_
      have : (addE dl e).length ≤ dl.length + 1 := by
        unfold addE
        split
        · omega
        · simp
      simp only [List.length_cons]
      omega
  simpa [diffE] using h es []

end Go.Proofs.YtincimgpgncomaaDoor
