/-
  A region that draws its order, in a round of a range over a function: what is shown of it outside rounds serves there, where none of its operations is a defer statement.
-/
import Derived.StillTail
import Derived.StillTailTactics
import Derived.TacticsIn
import Derived.TacticsInMore
import Derived.OrdersIn
import Derived.RangeFuncCalls
import Derived.Test.YtiiocjkhjogfkaaDoorRows
namespace Go.Proofs.YtiiocjkhjogfkaaDoor

section
variable {P : Program}

theorem rowsIn_round {l n : Nat} {row : String} {args : Array Value} {w : World} {R : Value → World → Prop} (h : Rows P row args w R) : RowsIn (Fence.wide.inRound l) n P row args w R :=
  fun c cs _ => let ⟨v, w', r, s⟩ := h c cs; ⟨v, w', r, stepsIn_wide.2 s⟩

/-- Where all goes on: K. -/
def onlyNormal (K : Act → World → Prop) : Exit → Act → World → Prop
  | .normal, a, w => K a w
  | _, _, _ => False

theorem onlyNormal_out {K : Act → World → Prop} : ¬ LetsOut (onlyNormal K) := fun ⟨_, _, h⟩ => h

theorem op_round {l n : Nat} {o : Oper} (hnd : ∀ c, o.op ≠ .defer c) {a : Act} {w : World} {K K' J : Act → World → Prop} {Q : Exit → Act → World → Prop} (hK : ∀ a w, K a w → K' a w) (h : o.wp P a w K (onlyNormal J)) :
    o.wpIn (Fence.wide.inRound l) n P a w K' Q := by
  unfold Oper.wpIn
  refine ⟨fun f _ => trivial, ?_⟩
  rw [Fence.inRound_round, Oper.semAt_some l _ _ hnd]
  unfold Oper.wp at h
  generalize (execOp a.eval o).run P w = r at h ⊢
  cases r with
  | ok x w' =>
    cases x with
    | value v => exact hK _ _ h
    | skip => exact hK _ _ h
    | defer d => exact hK _ _ h
    | enter f args =>
      refine ⟨fun h => by simp [Fence.wide] at h, CallsIn.inRound l (callsIn_wide.2 (Calls.mono h ?_))⟩
      intro e w'' he
      cases e with
      | returned v => exact hK _ _ he
      | panicked c => exact absurd he (fun h => h)
      | outgrown => exact absurd he onlyNormal_out
    | row row args => exact ⟨fun h => by simp [Fence.wide] at h, rowsIn_round (Rows.mono h fun v w'' hv => hK _ _ hv)⟩
    | _ => exact h.elim
  | halt s w' =>
    cases s with
    | panic v => exact absurd h (fun h => h)
    | _ => exact h.elim

theorem any_round {l n : Nat} {md : Region.Mode} {ops : Array Oper} (hnd : ∀ (i : Nat) o, ops[i]? = some o → ∀ c, o.op ≠ .defer c) {K : Act → World → Prop} {Q : Exit → Act → World → Prop} (hK : ∀ a w, K a w → Q .normal a w) :
    ∀ (fuel : Nat) (listed : Array Bool) (a : Act) (w : World), wpAny P md ops (onlyNormal K) fuel listed a w → wpAnyIn (Fence.wide.inRound l) n P md ops Q fuel listed a w
  | 0, listed, a, w, h => ⟨h.1, hK _ _ h.2⟩
  | fuel + 1, listed, a, w, h => by
    refine ⟨fun hr => hK _ _ (h.1 hr), fun i hi => ?_⟩
    have h2 := h.2 i hi
    unfold wpOp at h2
    unfold wpOpIn
    split at h2
    · rename_i hn
      rw [hn]
      exact any_round hnd hK fuel _ _ _ h2
    · rename_i o ho
      rw [ho]
      dsimp only
      split at h2
      · rename_i hw
        rw [if_pos hw]
        rcases h2 with h2 | ⟨_, h2⟩
        · exact op_round (hnd i o ho) (fun a w => any_round hnd hK fuel _ a w) h2
        · exact absurd h2 onlyNormal_out
      · rename_i hw
        rw [if_neg hw]
        exact ⟨fun f _ => trivial, any_round hnd hK fuel _ _ _ h2⟩

theorem op_read {ops : Array Oper} {Q : Exit → Act → World → Prop} {i : Nat} {o : Oper} {v : Value} {K : Act → World → Prop} {a : Act} {w : World} (hi : ops[i]? = some o) (hw : Region.wanted o (yielded ops a.tmps) = true)
    (hr : (execOp a.eval o).run P w = .ok (.value v) w) (h : K (a.put o.dst v) w) : wpOp P ops Q i K a w := by
  unfold wpOp
  rw [hi]
  dsimp only
  rw [if_pos hw]
  refine .inl ?_
  unfold Oper.wp
  rw [hr]
  exact h

theorem op_value {ops : Array Oper} {Q : Exit → Act → World → Prop} {i : Nat} {o : Oper} {v : Value} {K : Act → World → Prop} {a : Act} {w w' : World} (hi : ops[i]? = some o) (hw : Region.wanted o (yielded ops a.tmps) = true)
    (hr : (execOp a.eval o).run P w = .ok (.value v) w') (h : K (a.put o.dst v) w') : wpOp P ops Q i K a w := by
  unfold wpOp
  rw [hi]
  dsimp only
  rw [if_pos hw]
  refine .inl ?_
  unfold Oper.wp
  rw [hr]
  exact h

theorem op_skip {ops : Array Oper} {Q : Exit → Act → World → Prop} {i : Nat} {o : Oper} {K : Act → World → Prop} {a : Act} {w w' : World} (hi : ops[i]? = some o) (hw : Region.wanted o (yielded ops a.tmps) = true)
    (hr : (execOp a.eval o).run P w = .ok .skip w') (h : K (a.put o.dst undef) w') : wpOp P ops Q i K a w := by
  unfold wpOp
  rw [hi]
  dsimp only
  rw [if_pos hw]
  refine .inl ?_
  unfold Oper.wp
  rw [hr]
  exact h

theorem any_end {md : Region.Mode} {ops : Array Oper} {listed : Array Bool} {Q : Exit → Act → World → Prop} {a : Act} {w : World} (hr : Region.ready md ops listed = []) (h : Q .normal a w) : wpAny P md ops Q 0 listed a w := ⟨hr, h⟩

/-- A region in a round, out of a walk over all its orders. -/
theorem region_round {id l0 n0 : Nat} {Q : Exit → Act → World → Prop} {a : Act} {w : World} {l : List Oper} (hm : P.follows .mixedOrders = true) (K : Act → World → Prop) (h : ∀ a w, K a w → Q .normal a w)
    (hd : l.all (fun o => match o.op with | .defer _ => false | _ => true) = true) (hw : wpAny P .any l.toArray (onlyNormal K) l.toArray.size (Array.replicate l.toArray.size false) a { w with drawn := w.drawn + 1 }) :
    (Code.region id l.toArray true).wpIn (Fence.wide.inRound l0) n0 P Q a w := by
  refine wpIn_region_any hm (any_round (fun i o ho c hc => ?_) h _ _ _ _ hw)
  have := List.all_eq_true.1 hd o (List.mem_of_getElem? (show l[i]? = some o by simpa using ho))
  rw [hc] at this
  cases this

def noDefer (o : Oper) : Bool := match o.op with | .defer _ => false | _ => true

theorem noDefer_all {l : List Oper} (h : l.all noDefer = true) (i : Nat) (o : Oper) (ho : l.toArray[i]? = some o) : ∀ c, o.op ≠ .defer c := by
  intro c hc
  have := List.all_eq_true.1 h o (by
    have := List.mem_of_getElem? (show l[i]? = some o by simpa using ho)
    exact this)
  rw [noDefer, hc] at this
  cases this

/-- Reads in whatever order, then a tail of writing operations in theirs: in a round. -/
theorem region_still_tail_round {id l0 n0 : Nat} {Q : Exit → Act → World → Prop} {a : Act} {w : World} {l : List Oper} (n : Nat) (hm : P.follows .mixedOrders = true) (hB : Region.lexTailB .any l.toArray n = true) (hd : l.all noDefer = true)
    (h : wpStill P l.toArray { w with drawn := w.drawn + 1 } (fun a' => wpList P l.toArray (onlyNormal (Q .normal)) (l.drop n) a' { w with drawn := w.drawn + 1 }) (l.take n) a) :
    (Code.region id l.toArray true).wpIn (Fence.wide.inRound l0) n0 P Q a w := by
  obtain ⟨⟨⟨⟨b1, b2⟩, b3⟩, b4⟩, b5⟩ : (((Region.noSelect l.toArray = true ∧ n < l.toArray.size) ∧ Region.sinkB .any l.toArray n = true) ∧ Region.chainB .any l.toArray n = true) ∧ Region.lexHead .any l.toArray (l.toArray.size - n) n 0 (Array.replicate l.toArray.size false) = true := by
    simpa only [Region.lexTailB, Bool.and_eq_true, decide_eq_true_eq] using hB
  have hlen : (l.take n).length = n := by simp at b2 ⊢; omega
  have hrest : (l.drop n).length = l.toArray.size - n := by simp
  refine wpIn_region_any hm (any_round (noDefer_all hd) (fun _ _ h => h) _ _ _ _ ?_)
  have start : HeadInv .any l.toArray n (Array.replicate l.toArray.size false) := by
    refine ⟨by simp, ?_, ?_⟩
    · intro j oj _ hj
      rw [getD_replicate_false] at hj
      cases hj
    · intro t _ ht
      exact getD_in (by simpa using ht) (getD_replicate_false _ _)
  have heads := wpAnyL_lex (md := .any) (g := l.toArray.size - n) b1 b3 b4 b2 (l.take n) 0 _ a (fun j hj => by rw [hlen] at hj; simp [hj]) (by simpa using hlen) start (by rw [hlen]; exact b5) h
  have whole := wpAny_of_head (Q' := onlyNormal (Q .normal)) (g := l.toArray.size - n) (fun listed a' hL => by
    rw [← hrest] at hL ⊢
    exact wpAny_of_seq (md := .any) (Q' := onlyNormal (Q .normal)) (l.drop n) n listed a' _ (fun j => by simp [List.getElem?_drop]) hL.1 hL.2) _ _ _ heads
  rw [hlen, show n + (l.toArray.size - n) = l.toArray.size by omega] at whole
  exact whole

end
end Go.Proofs.YtiiocjkhjogfkaaDoor
