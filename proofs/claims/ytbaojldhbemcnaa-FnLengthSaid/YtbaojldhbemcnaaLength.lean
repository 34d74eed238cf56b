/-
  Lengths add up: the law FnLength answers true at every code. No condition.
-/
import Derived.Test.YtbaojldhbemcnaaReach
import Derived.Test.YtbaojldhbemcnaaOpen
namespace Go.Proofs.Ytbaojldhbemcnaa
open Go.ChangeShapes Go.WideShapes Go.ChangeAt Go.RowKit

theorem mvsIn_reverse (ms : List (Int × Int)) : mvsIn ms.reverse = mvsIn ms := by simp [mvsIn]

theorem mvSum_all (ms : List (Int × Int)) : mvSum ms ms.length = (ms.map mvLen).sum := by simp [mvSum]

theorem sum_rev (l : List Int) : l.reverse.sum = l.sum := by
  induction l with
  | nil => rfl
  | cons a l ih => simp [ih]; omega

theorem movesLen_reverse (ms : List (Int × Int)) : movesLen ms.reverse = movesLen ms := by
  unfold movesLen
  rw [mvsIn_reverse, mvSum_all, mvSum_all, List.map_reverse, sum_rev]

theorem far_le (ms : List (Int × Int)) : max (mvX ms ms.length) (-(mvX ms ms.length)) + max (mvY ms ms.length) (-(mvY ms ms.length)) ≤ mvSum ms ms.length := by
  have : ∀ l : List (Int × Int), max ((l.map Prod.fst).sum) (-((l.map Prod.fst).sum)) + max ((l.map Prod.snd).sum) (-((l.map Prod.snd).sum)) ≤ (l.map mvLen).sum := by
    intro l
    induction l with
    | nil => simp
    | cons a l ih =>
      simp only [List.map_cons, List.sum_cons, mvLen]
      omega
  simpa [mvX, mvY, mvSum] using this ms

set_option maxRecDepth 100000 in
set_option maxHeartbeats 2000000 in
theorem lawLength (A : Option Addr) (c : Nat) (bs : List Int) (w : World) (hcode : CodeIn w A c bs) :
    Calls Try.prog 4 #[.slice A bs.length c] w fun e w' => e = .returned (.bool true) ∧ Below w.heap.size w w' := by
  obtain ⟨i0, hi, hz0, hz1, hz2⟩ := info_parts Try.infoMv
  have Hcode := hide hcode
  have hm := hcode.1.2.1
  clear hcode
  by_cases hbig : 1048576 < bs.length
  · go_enter Try.func4, Try.ntmps4
    go_wp2
    go_ret
    exact ⟨rfl, Below.refl _ _⟩
  · go_enter Try.func4, Try.ntmps4
    go_wp2_with fail
    refine (drawLen_ok A c bs _ Hcode.out).mono ?_
    rintro e w1 ⟨v1, ms, rfl, ho1, hl, hb1⟩
    go_wp2_with fail
    refine (implLen_ok _ ms _ (owns_reads ho1)).mono ?_
    rintro e w2 ⟨rfl, hb2⟩
    have hb02 := kept_trans hb1 hb2
    go_wp2_with fail
    refine (specLen_ok _ ms _ (reads_kept (owns_reads ho1) hb2)).mono ?_
    rintro e w3 ⟨rfl, hb3⟩
    have hb03 := kept_trans hb02 hb3
    have ho3 := owns_reads (owns_kept (owns_kept ho1 hb2) hb3)
    clear ho1 hb1 hb2 hb3 hb02
    by_cases hneg : movesLen ms < 0
    · go_wp2_with fail
      go_ret
      exact ⟨by simp, hb03⟩
    · have hin : mvsIn ms = true := by
        cases h : mvsIn ms with
        | true => rfl
        | false => exact absurd (by simp [movesLen, h]) hneg
      have hlen : movesLen ms = mvSum ms ms.length := by simp [movesLen, hin]
      have hfar := far_le ms
      have hbd := mvXY_bd ms (mvsIn_parts hin).2 ms.length (Nat.le_refl _)
      have hsb := mvSum_bd ms (mvsIn_parts hin).2 ms.length (Nat.le_refl _)
      rw [← hlen] at hfar hsb
      have Hrev := hide (movesLen_reverse ms)
      have Hin := hide hin
      clear hlen hin
      have hrch := fun v w hr => reached_ok v ms w hr Hin.out
      generalize mvX ms ms.length = sx at hfar hbd hrch
      generalize mvY ms ms.length = sy at hfar hbd hrch
      have Hrch := hide hrch
      clear hrch
      generalize movesLen ms = L at *
      obtain ⟨⟨b1, b2⟩, b3, b4⟩ := hbd
      obtain ⟨b5, b6⟩ := hsb
      have Ho3 := hide ho3
      obtain ⟨_, _, A1, c1, rfl, hc1⟩ := ho3
      go_wp2_with fail
      have hob : (w3.alloc (.cells #[] 32)).ownsRow w3.heap.size 32 2 (.slice (some ⟨w3.heap.size, 0, none⟩) 0 0) 0 [] := by
        simpa using World.ownsRow_lit (base := w3.heap.size) (e := 32) (size := 2) w3 #[] 0 (Nat.le_refl _) (by decide) (by simp)
      have hbb := kept_new w3 (.cells #[] 32)
      go_loopw [6, 7] (fun v i wr => ∃ k : Nat, k ≤ ms.length ∧ i = .int .i64 ((k : Int) - 1) ∧ wr.ownsRow w3.heap.size 32 2 v (ms.length - k) (mvCells (ms.reverse.take (ms.length - k))) ∧ Below w3.heap.size w3 wr) (fun _ i _ => (intOf i + 1).toNat)
      case atStart => exact ⟨ms.length, by omega, rfl, by simpa [mvCells] using hob, hbb⟩
      case round =>
        obtain ⟨k, hk, rfl, ho, hb⟩ := hrel
        clear hob hbb
        match k, hk, ho with
        | 0, hk, ho =>
          have hr9 : Reads wr 2 u6 ms.reverse.length (mvCells ms.reverse) := by
            have := owns_reads ho
            simpa [List.take_of_length_le] using this
          have Hr9 := hide hr9
          have hk9 := kept_trans hb03 hb
          clear ho hr9
          have Ho9 := hide (reads_kept Ho3.out hb)
          go_wp2_with fail
          refine (Hrch.out _ _ Ho9.out).mono ?_
          rintro e w5 ⟨rfl, hb5⟩
          go_wp2_with fail
          have hb5' := kept_trans hb5 (kept_new w5 (.cells #[.int .i64 sx, .int .i64 sy] 32))
          refine (implLen_ok _ ms.reverse _ (reads_kept Hr9.out hb5')).mono ?_
          rw [Hrev.out]
          rintro e w6 ⟨rfl, hb6⟩
          have p0 : w6.cell? ⟨w5.heap.size, 0, none⟩ = some (.int .i64 sx) := kept_cell hb6 (by go_simp)
          have p1 : w6.cell? ⟨w5.heap.size, 1, none⟩ = some (.int .i64 sy) := kept_cell hb6 (by go_simp)
          go_wp2_with fail
          all_goals
            go_ret
            exact ⟨congrArg (fun b => Ending.returned (Value.bool b)) (decide_eq_true (by omega)), kept_trans hk9 (kept_trans hb5' hb6)⟩
        | k + 1, hk, ho =>
          rw [show (((k + 1 : Nat) : Int) - 1) = (k : Int) from by omega]
          obtain ⟨b, o, rfl, hbl, hcell⟩ := hc1 (by omega) (by omega)
          have h1 := (hb.cell (p := ⟨b, o + k * 2, none⟩) hbl).trans ((hcell (k * 2) (by omega)).trans (mvCells_x ms k (by omega)))
          have h2 : wr.cell? ⟨b, o + k * 2 + 1, none⟩ = _ := (hb.cell (p := ⟨b, o + k * 2 + 1, none⟩) hbl).trans ((hcell (k * 2 + 1) (by omega)).trans (mvCells_y ms k (by omega)))
          have hnx : ms.reverse.take (ms.length - k) = ms.reverse.take (ms.length - (k + 1)) ++ [ms[k]] := by
            rw [show ms.length - k = ms.length - (k + 1) + 1 from by omega, List.take_succ_eq_append_getElem (by simp; omega), List.getElem_reverse]
            congr 3
            omega
          have Hnx := hide hnx
          clear hcell hnx
          generalize ms[k] = p at h1 h2 Hnx
          obtain ⟨x, y⟩ := p
          dsimp only at h1 h2
          have hkl : k < ms.length := by omega
          go_wp2_with (at_builtin; refine wpList_append_one wr rfl _ _ 25 rfl w3.heap.size 32 i0 _ 2 16 Try.underlying25 hi hz0 hz1 hz2 rfl (by decide) _ _ _ rfl ho [.int .i64 x, .int .i64 y] _ _ rfl rfl (by simp [Value.oneCell']) (by omega) (by decide) hb.size rfl (by simp) ?_)
          intro g4 cap4 w4 ho4 hg4 hr4
          have hb4 := kept_grown hb hg4 hr4
          clear ho hg4 hr4
          go_wp2_with fail
          go_roundw
          case rel => exact ⟨k, by omega, rfl, by rw [Hnx.out, mvCells_app, show ms.length - k = ms.length - (k + 1) + 1 from by omega]; exact ho4, hb4⟩
          case measure => simp [intOf]
theorem Try.own : ownKnob Try.prog.godebug = none := by kernel_rfl
theorem Try.laidOut : laidOutB Try.prog = true := by kernel_rfl

set_option maxRecDepth 100000 in
theorem length_lifted (os : Os) (started : os.Started) (H : Type) (enc : TypeId × Value → H) :
    ReturnsInHanded {} Try.checked os 4 .any (Rows.fnLengthSpec.pre6 enc Try.prog Try.f4 Rows.fnLengthRow.domain false) (Rows.fnLengthSpec.post enc Try.prog Try.f4 false true false false) := by
  refine returnsInHanded_of_change (C := Try.checked) Try.own started (by kernel_rfl) Try.func4
    (ChangeSpec.witness6 (enc := enc) (C := Try.checked) false ⟨#[], #[.slice none 0 0], []⟩ 8 (by kernel_rfl) (by kernel_rfl) (by kernel_rfl) (by kernel_rfl)) ?_
  intro W base args ds gs before hval0 hW hcnd _
  have hval : ∀ (j : Nat) t v, Try.f4.params[j]? = some t → args[j]? = some v → Value.okWide Try.prog W .any base t v := hval0
  have hW' := hW
  obtain ⟨p, q, hA0, hV, rfl, hfz, hnd⟩ := hW
  have hA : DataW.TrodAll enc Try.prog W 0 (fun _ => true) true Try.f4.params.toList args.toList ds p := hA0
  rw [Try.params4] at hA hval
  obtain ⟨v0, d0, rfl, rfl, h0⟩ := trodAll_one hA
  obtain ⟨rfl, rfl⟩ := trodVars_none hV
  have h0k := h0
  obtain ⟨a0, len, cap, rfl⟩ := okWide_slice Try.underlying29 (hval 0 29 v0 rfl rfl)
  obtain ⟨fuel, hf⟩ := h0
  obtain ⟨A, c, bs, hv, hr⟩ := open_bytes Try.underlying29 Try.underlying5 (by kernel_rfl) hf
  rw [hv] at h0k hval hf ⊢
  clear hA0 hval0
  simp only [List.append_nil] at hW'
  rw [hv] at hW'
  refine (lawLength A c bs W hr).mono fun e W' ⟨he, hb⟩ => ?_
  subst he
  exact ⟨_, rfl, _, _, _, [], _, [], hW', trodAll_mk1 (shut_bool Try.underlying4 _), trodAll_mk1 (Below.trod Try.laidOut (by kernel_rfl) (of_decide_eq_true (by kernel_rfl)) h0k hb (fun x hx => by simpa using hW'.lt x hx)), rfl, hb.frame _, fun h => by cases h⟩

theorem length_holds : Rows.FnLengthSaid :=
  OpenClaim.holds_of_wide 4 Try.f4 rfl rfl rfl rfl rfl rfl rfl ⟨rfl, rfl, rfl, rfl, rfl⟩ rfl rfl rfl rfl rfl (by kernel_rfl) Try.func4 (by kernel_rfl)
    (of_decide_eq_true (by kernel_rfl)) (by unfold Func.isWrapper; first | (rw [if_pos (by decide +kernel)]; kernel_rfl) | (rw [if_neg (by decide +kernel)]; exact ⟨rfl, rfl⟩))
    (fun os started H enc _ => length_lifted os started H enc)

end Go.Proofs.Ytbaojldhbemcnaa
