/-
  The reference's words and loops of plotter programs.
-/
import Derived.Test.YtincimgpgncomaaDoorPm
import Derived.Test.YtincimgpgncomaaDoorRows
namespace Go.Proofs.YtincimgpgncomaaDoor
open Go.RowKit

theorem bytes_list (s : ByteArray) : s.toList = s.data.toList := by
  first | exact ByteArray.toList_eq_data_toList s | exact ByteArray.toList_eq s | simp [ByteArray.toList_data]

theorem stepB_list {s : ByteArray} {b : UInt8} (h : stepB s = some b) : s.toList = [b] ∧ isStepB b := by
  refine ⟨?_, stepB_is h⟩
  rw [bytes_list]
  unfold stepB at h
  split at h
  · rename_i c hc
    split at h
    · cases h; exact hc
    · cases h
  · cases h

theorem stepB_not {s : ByteArray} (h : stepB s = none) {b : UInt8} (hb : isStepB b) : (s.toList == [b]) = false := by
  rw [bytes_list]
  refine Bool.eq_false_iff.2 fun he => ?_
  have he := eq_of_beq he
  unfold stepB at h
  rw [he] at h
  simp only at h
  split at h
  · cases h
  · rename_i hn; exact hn hb

set_option maxHeartbeats 1000000 in
theorem l12Step_ok (s : ByteArray) (w : World) : Calls Tryd.prog 69 #[.string s] w fun e w' => e = .returned (.bool (stepB s).isSome) ∧ w = w' := by
  cases h : stepB s with
  | none =>
    have h1 := stepB_not h (b := 117) (.inl rfl)
    have h2 := stepB_not h (b := 100) (.inr (.inl rfl))
    have h3 := stepB_not h (b := 110) (.inr (.inr (.inl rfl)))
    have h4 := stepB_not h (b := 101) (.inr (.inr (.inr (.inl rfl))))
    have h5 := stepB_not h (b := 115) (.inr (.inr (.inr (.inr (.inl rfl)))))
    have h6 := stepB_not h (b := 119) (.inr (.inr (.inr (.inr (.inr (.inl rfl))))))
    have h7 := stepB_not h (b := 116) (.inr (.inr (.inr (.inr (.inr (.inr rfl))))))
    clear h
    go_enter Tryd.func69, Tryd.ntmps69
    go_wp2_with fail
    go_ret
    exact ⟨rfl, rfl⟩
  | some b =>
    obtain ⟨hl, hb⟩ := stepB_list h
    clear h
    have hc : ∀ c : UInt8, (s.toList == [c]) = decide (b = c) := fun c => by rw [hl]; by_cases h : b = c <;> simp [h]
    clear hl
    rcases hb with rfl | rfl | rfl | rfl | rfl | rfl | rfl
    all_goals
      first | (have h1 : (s.toList == [117]) = true := by rw [hc]; decide) | (have h1 : (s.toList == [117]) = false := by rw [hc]; decide)
      first | (have h2 : (s.toList == [100]) = true := by rw [hc]; decide) | (have h2 : (s.toList == [100]) = false := by rw [hc]; decide)
      first | (have h3 : (s.toList == [110]) = true := by rw [hc]; decide) | (have h3 : (s.toList == [110]) = false := by rw [hc]; decide)
      first | (have h4 : (s.toList == [101]) = true := by rw [hc]; decide) | (have h4 : (s.toList == [101]) = false := by rw [hc]; decide)
      first | (have h5 : (s.toList == [115]) = true := by rw [hc]; decide) | (have h5 : (s.toList == [115]) = false := by rw [hc]; decide)
      first | (have h6 : (s.toList == [119]) = true := by rw [hc]; decide) | (have h6 : (s.toList == [119]) = false := by rw [hc]; decide)
      first | (have h7 : (s.toList == [116]) = true := by rw [hc]; decide) | (have h7 : (s.toList == [116]) = false := by rw [hc]; decide)
      clear hc
      go_enter Tryd.func69, Tryd.ntmps69
      go_wp2_with fail
      go_ret
      exact ⟨rfl, rfl⟩

theorem loop_size {s : ByteArray} (h : ¬ (s.size : Int) = 2) : loopB s = 0 := by
  unfold loopB
  split
  · rename_i r d hl
    refine absurd ?_ h
    have : s.size = s.data.toList.length := rfl
    rw [this, hl]; rfl
  · rfl

theorem loop_two {s : ByteArray} (h : (s.size : Int) = 2) (h0 : 0 < s.size) (h1 : 1 < s.size) : loopB s = if s[0].toNat = 114 ∧ 49 ≤ s[1].toNat ∧ s[1].toNat ≤ 57 then s[1].toNat - 48 else 0 := by
  obtain ⟨⟨l⟩⟩ := s
  have h : l.length = 2 := by
    have e : (⟨⟨l⟩⟩ : ByteArray).size = l.length := rfl
    omega
  match l, h with
  | [a, b], _ =>
    show (if a = 114 ∧ 49 ≤ b ∧ b ≤ 57 then b.toNat - 48 else 0) = if a.toNat = 114 ∧ 49 ≤ b.toNat ∧ b.toNat ≤ 57 then b.toNat - 48 else 0
    have e1 : a = 114 ↔ a.toNat = 114 := ⟨fun h => by rw [h]; rfl, fun h => UInt8.toNat_inj.1 h⟩
    have e2 : 49 ≤ b ↔ 49 ≤ b.toNat := UInt8.le_iff_toNat_le
    have e3 : b ≤ 57 ↔ b.toNat ≤ 57 := UInt8.le_iff_toNat_le
    simp only [e1, e2, e3]

set_option maxHeartbeats 1000000 in
theorem l12Loop_ok (s : ByteArray) (w : World) : Calls Tryd.prog 68 #[.string s] w fun e w' => e = .returned (.int .i64 (loopB s)) ∧ w = w' := by
  by_cases h2 : (s.size : Int) = 2
  · have p0 : 0 < s.size := by omega
    have p1 : 1 < s.size := by omega
    have hv := loop_two h2 p0 p1
    go_enter Tryd.func68, Tryd.ntmps68
    go_wp2_with fail
    all_goals
      go_ret
      refine ⟨congrArg Ending.returned (congrArg (Value.int .i64) ?_), rfl⟩
      first | rfl | (rw [hv]; split <;> omega)
  · have hv := loop_size h2
    go_enter Tryd.func68, Tryd.ntmps68
    go_wp2_with fail
    all_goals
      go_ret
      exact ⟨by rw [hv]; rfl, rfl⟩

/-- A text's words: what lies between its spaces. -/
def wordsL : List UInt8 → List (List UInt8)
  | [] => [[]]
  | c :: l => if c = 32 then [] :: wordsL l else
    match wordsL l with
    | [] => [[c]]
    | h :: t => (c :: h) :: t

/-- A piece that lies ahead of the first word. -/
def ahead (p : List UInt8) (ws : List (List UInt8)) : List (List UInt8) :=
  match ws with
  | [] => [p]
  | h :: t => (p ++ h) :: t

theorem wordsL_ne (l : List UInt8) : wordsL l ≠ [] := by
  cases l with
  | nil => simp [wordsL]
  | cons c l =>
    unfold wordsL
    split
    · simp
    · split <;> simp

theorem ahead_nil (l : List UInt8) : ahead [] (wordsL l) = wordsL l := by
  unfold ahead
  split
  · rename_i h; exact absurd h (wordsL_ne l)
  · rename_i h t e; rw [e]; rfl

theorem ahead_space (p l : List UInt8) : ahead p (wordsL (32 :: l)) = p :: wordsL l := by
  simp [wordsL, ahead]

theorem ahead_other (p l : List UInt8) {c : UInt8} (h : c ≠ 32) : ahead p (wordsL (c :: l)) = ahead (p ++ [c]) (wordsL l) := by
  have hn := wordsL_ne l
  rw [wordsL, if_neg h]
  cases e : wordsL l with
  | nil => exact absurd e hn
  | cons a t => simp [ahead]

def strs (xs : List ByteArray) : List Value := xs.map Value.string
def dats (xs : List ByteArray) : List (List UInt8) := xs.map (·.data.toList)

/-- A slice of texts of its own. -/
def StrPost (P : List ByteArray → Prop) (w : World) (e : Ending) (w' : World) : Prop :=
  ∃ v xs, e = .returned v ∧ w'.ownsRow w.heap.size 9 1 v xs.length (strs xs) ∧ P xs ∧ Below w.heap.size w w'

theorem Tryd.infoS : (Tryd.prog.info? 9).map (fun i => (i.zero, i.size, i.bytes)) = some (some (.string ByteArray.empty), 1, 16) := by kernel_rfl

theorem extract_list (s : ByteArray) (a b : Nat) : (s.extract a b).data.toList = (s.data.toList.drop a).take (b - a) := by
  simp [ByteArray.data_extract]

theorem drop_at (s : ByteArray) (i : Nat) (h : i < s.size) : s.data.toList.drop i = s[i] :: s.data.toList.drop (i + 1) := by
  have h' : i < s.data.toList.length := h
  rw [List.drop_eq_getElem_cons h']
  rfl

set_option maxRecDepth 100000 in
set_option maxHeartbeats 2000000 in
theorem l12Words_ok (s : ByteArray) (w : World) (hs : s.size ≤ 1000000) : Calls Tryd.prog 51 #[.string s] w (StrPost (fun xs => dats xs = wordsL s.data.toList) w) := by
  obtain ⟨i0, hi, hz0, hz1, hz2⟩ := info_parts Tryd.infoS
  go_enter Tryd.func51, Tryd.ntmps51
  go_wp2_with fail
  have hb0 : Below w.heap.size w (w.alloc (.cells #[] 9)) := kept_new _ _
  have ho0 : (w.alloc (.cells #[] 9)).ownsRow w.heap.size 9 1 (.slice (some ⟨w.heap.size, 0, none⟩) 0 0) 0 [] := by
    simpa using World.ownsRow_lit (base := w.heap.size) (e := 9) (size := 1) w #[] 0 (Nat.le_refl _) (by decide) (by simp)
  generalize w.alloc (.cells #[] 9) = wa at *
  go_loopw [3, 4, 5] (fun v f i wr => ∃ (t from_ : Nat) (xs : List ByteArray), from_ ≤ t ∧ t ≤ s.size + 1 ∧ xs.length ≤ t ∧ i = .int .i64 t ∧ f = .int .i64 from_ ∧ wr.ownsRow w.heap.size 9 1 v xs.length (strs xs) ∧ Below w.heap.size w wr ∧
    ((t ≤ s.size ∧ dats xs ++ ahead ((s.data.toList.drop from_).take (t - from_)) (wordsL (s.data.toList.drop t)) = wordsL s.data.toList) ∨ (t = s.size + 1 ∧ dats xs = wordsL s.data.toList))) (fun _ _ i _ => s.size + 1 - (intOf i).toNat)
  case atStart => exact ⟨0, 0, [], by omega, by omega, by simp, rfl, rfl, ho0, hb0, .inl ⟨by omega, by simpa [dats] using ahead_nil _⟩⟩
  case round =>
    obtain ⟨t, fr, xs, hft, ht, hxt, rfl, rfl, ho, hb, hst⟩ := hrel
    clear ho0 hb0
    by_cases h1 : t ≤ s.size
    · have h1' : (t : Int) ≤ (s.size : Int) := by omega
      by_cases h2 : t = s.size
      · subst h2
        have hst : dats xs ++ [(s.data.toList.drop fr).take (s.size - fr)] = wordsL s.data.toList := by
          rcases hst with ⟨_, h⟩ | ⟨h, _⟩
          · rw [← h, show s.data.toList.drop s.size = [] from List.drop_of_length_le (Nat.le_refl _)]
            simp [wordsL, ahead]
          · omega
        go_wp2_with (at_builtin; refine wpList_append_one wr rfl _ _ 43 rfl w.heap.size 9 i0 _ 1 16 Tryd.underlying43 hi hz0 hz1 hz2 rfl (by decide) _ _ _ rfl ho [Value.string (s.extract fr s.size)] _ _ rfl rfl (by simp [Value.oneCell']) (by omega) (by decide) hb.size rfl (by simp) ?_)
        intro g6 cap6 w6 ho6 hg6 hr6
        have hb6 := kept_grown hb hg6 hr6
        clear ho hg6 hr6 hb
        go_wp2_with fail
        go_roundw
        case rel => exact ⟨s.size + 1, s.size + 1, xs ++ [s.extract fr s.size], by omega, by omega, by simp; omega, by go_num, by go_num, by simpa [strs] using ho6, hb6, .inr ⟨rfl, by rw [← hst]; simp [dats]⟩⟩
        case measure => simp [intOf]
      · have h3 : t < s.size := by omega
        have h3' : (t : Int) < (s.size : Int) := by omega
        have h2' : ¬ (t : Int) = (s.size : Int) := by omega
        have hst : dats xs ++ ahead ((s.data.toList.drop fr).take (t - fr)) (wordsL (s[t] :: s.data.toList.drop (t + 1))) = wordsL s.data.toList := by
          rcases hst with ⟨_, h⟩ | ⟨h, _⟩
          · rw [← h, drop_at s t h3]
          · omega
        by_cases h4 : s[t] = 32
        · have h4' : (s[t].toNat : Int) = 32 := by rw [h4]; rfl
          rw [h4, ahead_space] at hst
          clear h4
          go_wp2_with (at_builtin; refine wpList_append_one wr rfl _ _ 43 rfl w.heap.size 9 i0 _ 1 16 Tryd.underlying43 hi hz0 hz1 hz2 rfl (by decide) _ _ _ rfl ho [Value.string (s.extract fr t)] _ _ rfl rfl (by simp [Value.oneCell']) (by omega) (by decide) hb.size rfl (by simp) ?_)
          intro g6 cap6 w6 ho6 hg6 hr6
          have hb6 := kept_grown hb hg6 hr6
          clear ho hg6 hr6 hb
          go_wp2_with fail
          go_roundw
          case rel => exact ⟨t + 1, t + 1, xs ++ [s.extract fr t], by omega, by omega, by simp; omega, by go_num, by go_num, by simpa [strs] using ho6, hb6, .inl ⟨by omega, by rw [← hst, Nat.sub_self, List.take_zero, ahead_nil]; simp [dats]⟩⟩
          case measure => simp [intOf]; omega
        · have h4' : ¬ (s[t].toNat : Int) = 32 := by
            intro e
            have e1 : s[t].toNat = (32 : UInt8).toNat := by
              show s[t].toNat = 32
              omega
            exact h4 (UInt8.toNat_inj.1 e1)
          have h4b : ((s[t].toNat : Int) == 32) = false := beq_eq_false_iff_ne.2 h4'
          have h2b : ((t : Int) == (s.size : Int)) = false := beq_eq_false_iff_ne.2 h2'
          rw [ahead_other _ _ h4] at hst
          have hp : (s.data.toList.drop fr).take (t + 1 - fr) = (s.data.toList.drop fr).take (t - fr) ++ [s[t]] := by
            have e1 : t + 1 - fr = (t - fr) + 1 := by omega
            have e2 : t - fr < (s.data.toList.drop fr).length := by
              have : s.data.toList.length = s.size := rfl
              rw [List.length_drop]; omega
            rw [e1, List.take_succ_eq_append_getElem e2]
            congr 2
            rw [List.getElem_drop]
            have : fr + (t - fr) = t := by omega
            simp only [this]
            rfl
          rw [← hp] at hst
          clear h4 hp
          go_wp2_with fail
          go_roundw
          case rel => exact ⟨t + 1, fr, xs, by omega, by omega, by omega, by go_num, rfl, ho, hb, .inl ⟨by omega, hst⟩⟩
          case measure => simp [intOf]; omega
    · have h1' : ¬ (t : Int) ≤ (s.size : Int) := by omega
      have hst : dats xs = wordsL s.data.toList := by
        rcases hst with ⟨h, _⟩ | ⟨_, h⟩
        · omega
        · exact h
      go_wp2_with fail
      go_ret
      exact ⟨_, xs, rfl, ho, hst, hb⟩

end Go.Proofs.YtincimgpgncomaaDoor
