/-
  The program's PlotValid and PlotSteps.
-/
import Derived.Test.YtincimgpgncomaaDoorSo
namespace Go.Proofs.YtincimgpgncomaaDoor
open Go.RowKit

set_option maxHeartbeats 1000000 in
theorem validImpl_ok (s : ByteArray) (w : World) : Calls Tryd.prog 16 #[.string s] w fun e w' => e = .returned (.bool (progB s).isSome) ∧ Below w.heap.size w w' := by
  have hp := stepsOf_ok s w
  unfold stepsV at hp
  generalize progB s = r at hp ⊢
  cases r with
  | none =>
    dsimp only at hp
    go_enter Tryd.func16, Tryd.ntmps16
    go_wp2_with fail
    refine hp.mono ?_
    rintro e w1 ⟨rfl, hb⟩
    go_wp2_with fail
    go_ret
    exact ⟨rfl, hb⟩
  | some o =>
    dsimp only at hp
    go_enter Tryd.func16, Tryd.ntmps16
    go_wp2_with fail
    refine hp.mono ?_
    rintro e w1 ⟨rfl, hb⟩
    go_wp2_with fail
    go_ret
    exact ⟨rfl, hb⟩

set_option maxHeartbeats 1000000 in
theorem stepsImpl_ok (s : ByteArray) (w : World) : Calls Tryd.prog 18 #[.string s] w fun e w' => e = .returned (.int .i64 (stepsB s)) ∧ Below w.heap.size w w' := by
  have hp := stepsOf_ok s w
  unfold stepsV at hp
  unfold stepsB
  generalize progB s = r at hp ⊢
  cases r with
  | none =>
    dsimp only at hp
    go_enter Tryd.func18, Tryd.ntmps18
    go_wp2_with fail
    refine hp.mono ?_
    rintro e w1 ⟨rfl, hb⟩
    go_wp2_with fail
    go_ret
    exact ⟨rfl, hb⟩
  | some o =>
    dsimp only at hp
    go_enter Tryd.func18, Tryd.ntmps18
    go_wp2_with fail
    refine hp.mono ?_
    rintro e w1 ⟨rfl, hb⟩
    go_wp2_with fail
    go_ret
    exact ⟨rfl, hb⟩

end Go.Proofs.YtincimgpgncomaaDoor
