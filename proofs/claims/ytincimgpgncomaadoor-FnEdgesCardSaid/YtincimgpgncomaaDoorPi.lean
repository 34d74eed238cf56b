/-
  The program's isStep and need.
-/
import Derived.Test.YtincimgpgncomaaDoorPg
import Derived.Shelf.Strings.Search3
import Derived.Shelf.Lays
import Derived.Ground.NamesProg
namespace Go.Proofs.YtincimgpgncomaaDoor
open Go.RowKit Go.Shelf

def Tryd.containsS_ren : Go.Shelf.Ren := ⟨fun | 144 => 82 | 143 => 77 | 219 => 90 | 217 => 79 | 225 => 96 | 224 => 97 | 267 => 98 | 266 => 91 | 314 => 99 | n => n, fun | 9 => 9 | 4 => 4 | 3 => 3 | 5 => 5 | 46 => 104 | 146 => 113 | 51 => 112 | n => n, fun | 1 => 0 | n => n⟩
theorem Tryd.containsS : Go.Proofs.Lays.n144 Tryd.prog Tryd.containsS_ren := {
  mixed := by kernel_rfl
  f143 := Tryd.func77.trans (congrArg some (by kernel_rfl))
  f144 := Tryd.func82.trans (congrArg some (by kernel_rfl))
  f217 := Tryd.func79.trans (congrArg some (by kernel_rfl))
  f219 := Tryd.func90.trans (congrArg some (by kernel_rfl))
  f224 := Tryd.func97.trans (congrArg some (by kernel_rfl))
  f225 := Tryd.func96.trans (congrArg some (by kernel_rfl))
  f266 := Tryd.func91.trans (congrArg some (by kernel_rfl))
  f267 := Tryd.func98.trans (congrArg some (by kernel_rfl))
  f314 := Tryd.func99.trans (congrArg some (by kernel_rfl))
  t3 := Tryd.underlying3
  a3 := Tryd.isAgg3
  z3 := Tryd.sizeOf3
  v3 := Tryd.zeroValue3
  t4 := Tryd.underlying4
  a4 := Tryd.isAgg4
  z4 := Tryd.sizeOf4
  v4 := Tryd.zeroValue4
  t5 := Tryd.underlying5
  a5 := Tryd.isAgg5
  z5 := Tryd.sizeOf5
  v5 := Tryd.zeroValue5
  t9 := Tryd.underlying9
  a9 := Tryd.isAgg9
  z9 := Tryd.sizeOf9
  v9 := Tryd.zeroValue9
  t46 := Tryd.underlying104
  a46 := Tryd.isAgg104
  z46 := Tryd.sizeOf104
  v46 := Tryd.zeroValue104
  t51 := Tryd.underlying112
  a51 := Tryd.isAgg112
  z51 := Tryd.sizeOf112
  v51 := Tryd.zeroValue112
  t146 := Tryd.underlying113
  a146 := Tryd.isAgg113
  z146 := Tryd.sizeOf113
  v146 := Tryd.zeroValue113
  g1 := by kernel_rfl }

theorem containsS_ok (s : ByteArray) (c : UInt8) (w : World) : Calls Tryd.prog 82 #[.string s, .string ⟨#[c]⟩] w fun e w' => e = .returned (.bool (decide (0 ≤ Lib.indexByte s.data.toList c))) ∧ w' = w :=
  Any.strings_Contains_one Tryd.containsS s c w

instance (b : UInt8) : Decidable (isStepB b) := by unfold isStepB; infer_instance

theorem stepB_one (b : UInt8) : stepB ⟨#[b]⟩ = if isStepB b then some b else none := by
  show (if b = 117 ∨ b = 100 ∨ b = 110 ∨ b = 101 ∨ b = 115 ∨ b = 119 ∨ b = 116 then some b else none) = _
  rfl

theorem step_index (c : UInt8) : decide (0 ≤ Lib.indexByte [117, 100, 110, 101, 115, 119, 116] c) = (stepB ⟨#[c]⟩).isSome := by
  rw [stepB_one]
  by_cases h : isStepB c
  · rw [if_pos h]
    rcases h with rfl | rfl | rfl | rfl | rfl | rfl | rfl <;> decide
  · rw [if_neg h]
    have hn : ∀ d : UInt8, isStepB d → ¬ d = c := fun d hd e => h (e ▸ hd)
    have h1 := hn 117 (.inl rfl)
    have h2 := hn 100 (.inr (.inl rfl))
    have h3 := hn 110 (.inr (.inr (.inl rfl)))
    have h4 := hn 101 (.inr (.inr (.inr (.inl rfl))))
    have h5 := hn 115 (.inr (.inr (.inr (.inr (.inl rfl)))))
    have h6 := hn 119 (.inr (.inr (.inr (.inr (.inr (.inl rfl))))))
    have h7 := hn 116 (.inr (.inr (.inr (.inr (.inr (.inr rfl))))))
    simp [Lib.indexByte, h1, h2, h3, h4, h5, h6, h7]

theorem stepB_size {s : ByteArray} (h : ¬ s.size = 1) : stepB s = none := by
  unfold stepB
  split
  · rename_i b hb
    refine absurd ?_ h
    have : s.size = s.data.toList.length := rfl
    rw [this, hb]; rfl
  · rfl

set_option maxHeartbeats 1000000 in
theorem isStep_ok (s : ByteArray) (w : World) : Calls Tryd.prog 70 #[.string s] w fun e w' => e = .returned (.bool (stepB s).isSome) ∧ w = w' := by
  by_cases h : s.size = 1
  · obtain ⟨c, rfl⟩ : ∃ c, s = ⟨#[c]⟩ := by
      obtain ⟨⟨l⟩⟩ := s
      have h : l.length = 1 := h
      match l, h with
      | [c], _ => exact ⟨c, rfl⟩
    rw [← step_index]
    go_enter Tryd.func70, Tryd.ntmps70
    go_wp2_with fail
    refine (containsS_ok _ c _).mono ?_
    rintro e w1 ⟨rfl, rfl⟩
    go_wp2_with fail
    go_ret
    exact ⟨rfl, rfl⟩
  · rw [stepB_size h]
    have h' : ¬ (s.size : Int) = 1 := by omega
    go_enter Tryd.func70, Tryd.ntmps70
    go_wp2_with fail
    go_ret
    exact ⟨rfl, rfl⟩

/-- The panic of a text that is no program. -/
def noProgV : Value := .iface 70 (.agg #[])

theorem need_yes (w : World) : Calls Tryd.prog 53 #[.bool true] w fun e w' => e = .returned (.tuple #[]) ∧ w = w' := by
  go_enter Tryd.func53, Tryd.ntmps53
  go_wp2_with fail
  go_end0
  exact ⟨rfl, rfl⟩

theorem need_no (w : World) : Calls Tryd.prog 53 #[.bool false] w fun e w' => e = .panicked [{ v := noProgV, recovered := false }] ∧ w = w' := by
  go_enter Tryd.func53, Tryd.ntmps53
  go_wp2_with fail
  exact ⟨rfl, rfl, rfl⟩

end Go.Proofs.YtincimgpgncomaaDoor
