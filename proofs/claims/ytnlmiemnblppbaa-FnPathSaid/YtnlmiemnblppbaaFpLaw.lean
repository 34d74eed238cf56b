/-
  Parts of paths are paths: the law FnPath answers true at every code. No condition.
-/
import Derived.Test.YtnlmiemnblppbaaHp
import Derived.Test.YtnlmiemnblppbaaMw
namespace Go.Proofs.Ytnlmiemnblppbaa
open Go.ChangeShapes Go.WideShapes Go.ChangeAt Go.RowKit

theorem sub_self32 (x : Nat) (h : fieldW Ieee.single x ≤ 250) : Ieee.single.sub x x = some 0 := by
  obtain ⟨s, m, p, hr, _⟩ := read_fin x 250 h (by decide)
  unfold Ieee.Format.sub
  rw [hr]
  have h1 : Ieee.signed s m (p - min p p).toNat + Ieee.signed (!s) m (p - min p p).toNat = 0 := by
    unfold Ieee.signed
    cases s <;> simp <;> omega
  simp only [Ieee.Datum.opposite, Ieee.Datum.sum, h1, Option.map_some]
  cases s <;> rfl

theorem far_max (ts : Array TypeId) (ty : TypeId) (W : World) : (Builtin.max_ ts ty #[.float .f32 0, .float .f32 0, .float .f32 2147483648, .float .f32 0, .float .f32 2147483648]).run Try.prog W = .ok (.float .f32 0) W := by
  first | rfl | kernel_rfl

set_option maxRecDepth 100000 in
set_option maxHeartbeats 1000000 in
theorem far0_ok (v : Value) (zs : List (Nat × Nat)) (w : World) (hr : Reads w 1 v zs.length (cCells zs)) (hp : pathOk zs = true) (hf : ∀ z ∈ zs, FinP z) :
    Calls Try.prog 31 #[v, v] w fun e w' => e = .returned (.tuple #[.float .f32 0, .bool true]) ∧ Below w.heap.size w w' := by
  have Hpv := hide (fun w hr => implPath_ok v zs w hr)
  rw [hp] at Hpv
  have Hr := hide hr
  have Hf := hide hf
  clear hf hp
  have hneg : ∀ W, (Op.unary .neg (.float .f32 0)).run Try.prog W = .ok (.float .f32 2147483648) W := fun W => rfl
  have hmax := fun ts ty W => far_max ts ty W
  obtain ⟨_, hm, A, c, rfl, hc⟩ := hr
  go_enter Try.func31, Try.ntmps31
  go_wp2_with fail
  refine (Hpv.out _ Hr.out).mono ?_
  rintro e w1 ⟨rfl, rfl⟩
  go_wp2_with fail
  refine (Hpv.out _ Hr.out).mono ?_
  rintro e w1 ⟨rfl, rfl⟩
  go_wp2_with fail
  go_loopw [6, 26] (fun u i wr => ∃ t m : Nat, t ≤ zs.length ∧ i = .int .i64 t ∧ u = .float .f32 0 ∧ wr = w.drewN m) (fun _ i _ => zs.length - (intOf i).toNat)
  case atStart => exact ⟨0, 0, by omega, rfl, rfl, rfl⟩
  case round =>
    obtain ⟨t, m, ht, rfl, rfl, rfl⟩ := hrel
    by_cases hlt : t < zs.length
    · obtain ⟨b, o, rfl, hbl, hcell⟩ := hc (by omega) (by omega)
      have h1 := (hcell t (by omega)).trans (cCells_get zs t hlt)
      have hz := Hf.out _ (List.getElem_mem hlt)
      clear hcell hc
      generalize zs[t] = z at h1 hz
      obtain ⟨x, y⟩ := z
      have hs : ∀ W, (binOp .sub 46 (.complex .f32 x y) (.complex .f32 x y)).run Try.prog W = .ok (.complex .f32 0 0) W := fun W => run_complex_sum W .sub (.inr rfl) _ _ _ _ _ _ _ _ (by
        have e1 : floatBits .sub .f32 x x = some 0 := sub_self32 x hz.1
        have e2 : floatBits .sub .f32 y y = some 0 := sub_self32 y hz.2
        simp [cSumBits, e1, e2])
      clear hz
      dsimp only at h1
      have q3 : (0 : Int) ≤ (t : Int) := by omega
      have q4 : (t : Int) < (zs.length : Int) := by omega
      go_wp2_with fail
      go_quiet (fail)
      go_wp2_with fail
      go_roundw
      case rel => exact ⟨t + 1, _, by omega, by go_num, rfl, rfl⟩
      case measure => simp [intOf]; omega
    · go_wp2_with fail
      go_ret2
      exact ⟨rfl, kept_drewN _ _⟩

theorem drawPV_ok (A : Option Addr) (c : Nat) (bs : List Int) (w : World) (hc : CodeIn w A c bs) : Calls Try.prog 28 #[.slice A bs.length c] w fun e w' => ∃ v zs, e = .returned v ∧ Has w' w.heap.size 1 v zs.length (cCells zs) ∧ zs.length ≤ 24 ∧ (pathOk zs = false ∨ ∀ z ∈ zs, FinP z) ∧ Below w.heap.size w w' ∧ ∃ A n c, v = .slice A n c ∧ n ≤ c := by
  have H := hide hc
  clear hc
  go_enter Try.func28, Try.ntmps28
  go_wp2_with fail
  refine (l6Open_ok A c bs _ H.out.1 H.out.2.1 H.out.2.2.1 H.out.2.2.2).mono ?_
  rintro e w1 ⟨R, rfl, hR, hR1, hb1⟩
  go_wp2_with fail
  refine (l92Path_ok R 0 _ hR1 (by decide)).mono ?_
  rintro e w2 ⟨v, zs, rfl, hh, hl, hf, _, hg2, hcv⟩
  have Hcv := hide hcv
  clear hcv
  have hb2 := kept_of_new hb1 hg2 hR
  have hh2 := has_base hh hb1.size
  have Hf := hide hf
  clear hh hf
  go_wp2_with fail
  go_ret
  exact ⟨v, zs, rfl, hh2, hl, Hf.out, hb2, Hcv.out⟩

theorem pathOk_take {zs : List (Nat × Nat)} {K : Nat} (h : pathOk zs = true) (h1 : 1 ≤ K) (h2 : K ≤ zs.length) : pathOk (zs.take K) = true := by
  simp only [pathOk, Bool.and_eq_true, decide_eq_true_eq, List.all_eq_true] at h ⊢
  refine ⟨⟨by simp; omega, by simp; omega⟩, fun z hz => h.2 z (List.mem_of_mem_take hz)⟩

theorem reads_take {w : World} {A : Option Addr} {c K : Nat} {zs : List (Nat × Nat)} (h : Reads w 1 (.slice A zs.length c) zs.length (cCells zs)) (hK : K ≤ zs.length) : Reads w 1 (.slice A K c) (zs.take K).length (cCells (zs.take K)) := by
  have hl : (zs.take K).length = K := by simp; omega
  obtain ⟨_, hm, A', c', hv, hc⟩ := h
  obtain ⟨rfl, rfl⟩ : A = A' ∧ c = c' := by simpa using hv
  rw [hl]
  refine ⟨by rw [cCells_len, hl, Nat.mul_one], by omega, A, c, rfl, fun h0 _ => ?_⟩
  obtain ⟨b, o, hA, hb, hcell⟩ := hc (by omega) (by omega)
  refine ⟨b, o, hA, hb, fun j hj => ?_⟩
  rw [hcell j (by omega)]
  unfold cCells
  rw [List.map_take, List.getElem?_take_of_lt (by omega)]

set_option maxRecDepth 100000 in
set_option maxHeartbeats 2000000 in
theorem lawPath (A : Option Addr) (c : Nat) (bs : List Int) (w : World) (hcode : CodeIn w A c bs) :
    Calls Try.prog 6 #[.slice A bs.length c] w fun e w' => e = .returned (.bool true) ∧ Below w.heap.size w w' := by
  have Hcode := hide hcode
  have hm := hcode.1.2.1
  clear hcode
  by_cases hbig : 1048576 < bs.length
  · go_enter Try.func6, Try.ntmps6
    go_wp2
    go_ret
    exact ⟨rfl, Below.refl _ _⟩
  · go_enter Try.func6, Try.ntmps6
    go_wp2_with fail
    refine (drawPV_ok A c bs _ Hcode.out).mono ?_
    rintro e w1 ⟨v, zs, rfl, hh, hl, hf, hb1, hcv⟩
    have Hcv := hide hcv
    clear hcv hm hbig Hcode
    have Hr := hide (has_reads hh)
    clear hh
    have Hi := hide (fun w hr => implPath_ok v zs w hr)
    have Hs := hide (fun w hr => specPath_ok v zs w hr)
    cases hp : pathOk zs with
    | false =>
      rw [hp] at Hi Hs
      clear hp hf
      go_wp2_with fail
      refine (Hi.out _ Hr.out).mono ?_
      rintro e w2 ⟨rfl, rfl⟩
      go_wp2_with fail
      refine (Hs.out _ Hr.out).mono ?_
      rintro e w2 ⟨rfl, rfl⟩
      go_wp2_with fail
      go_ret
      exact ⟨rfl, hb1⟩
    | true =>
      rw [hp] at Hi Hs
      have hfz : ∀ z ∈ zs, FinP z := by
        rcases hf with h | h
        · rw [hp] at h; cases h
        · exact h
      have Hfar := hide (fun w hr => far0_ok v zs w hr hp hfz)
      have hn1 : 1 ≤ zs.length := by
        simp only [pathOk, Bool.and_eq_true, decide_eq_true_eq] at hp
        exact hp.1.1
      have ho : (FloatKind.f32.format.order 0 0 == some Ordering.eq) = true := by decide
      obtain ⟨K, hK⟩ : ∃ K, zs.length = K + 1 := ⟨zs.length - 1, by omega⟩
      have Hpre := hide (fun (h1 : 1 ≤ K) A c w (hr : Reads w 1 (.slice A zs.length c) zs.length (cCells zs)) => implPath_ok _ _ w (reads_take hr (show K ≤ zs.length by omega)))
      have Hpo := hide (fun (h1 : 1 ≤ K) => pathOk_take hp h1 (show K ≤ zs.length by omega))
      have hr := Hr.out
      obtain ⟨_, _, A1, c1, rfl, hc1⟩ := hr
      have hcp : zs.length ≤ c1 := by
        obtain ⟨A, n, c, h1, h2⟩ := Hcv.out
        simp only [Value.slice.injEq] at h1
        obtain ⟨_, rfl, rfl⟩ := h1
        exact h2
      clear Hcv
      have hK30 : K ≤ 30 := by omega
      clear hp hf hfz hn1 hl
      have HK := hide hK
      clear hK
      go_wp2_with fail
      refine (Hi.out _ Hr.out).mono ?_
      rintro e w2 ⟨rfl, rfl⟩
      go_wp2_with fail
      refine (Hs.out _ Hr.out).mono ?_
      rintro e w2 ⟨rfl, rfl⟩
      go_wp2_with fail
      refine (Hfar.out _ Hr.out).mono ?_
      rintro e w3 ⟨rfl, hb3⟩
      have hb03 := kept_trans hb1 hb3
      have Hr3 := hide (reads_kept Hr.out hb3)
      clear hb1 hb3 hc1
      have hK := HK.out
      by_cases h1 : K = 0
      · subst h1
        have i1 : (zs.length : Int) = 1 := by omega
        clear hK
        go_wp2_with fail
        go_ret
        exact ⟨by simp, hb03⟩
      · have h1' : 1 ≤ K := by omega
        have Hp2 := hide (Hpre.out h1' _ _ _ Hr3.out)
        rw [Hpo.out h1'] at Hp2
        have i1 : ((zs.length : Int) == 1) = false := beq_eq_false_iff_ne.2 (by omega)
        have i2 : ¬ (zs.length : Int) = 1 := by omega
        have i3 : ((zs.length : Int) - 1) = (K : Int) := by omega
        have i4 : (0 : Int) ≤ (K : Int) := by omega
        have i5 : (K : Int) ≤ (c1 : Int) := by omega
        have i6 : K ≤ c1 := by omega
        clear hK h1
        go_wp2_with fail
        refine Hp2.out.mono ?_
        rintro e w4 ⟨rfl, rfl⟩
        go_wp2_with fail
        go_ret
        exact ⟨by simp, hb03⟩

theorem Try.own : ownKnob Try.prog.godebug = none := by kernel_rfl
theorem Try.laidOut : laidOutB Try.prog = true := by kernel_rfl

set_option maxRecDepth 100000 in
theorem fnPath_lifted (os : Os) (started : os.Started) (H : Type) (enc : TypeId × Value → H) :
    ReturnsInHanded {} Try.checked os 6 .any (Rows.fnPathSpec.pre6 enc Try.prog Try.f6 Rows.fnPathRow.domain false) (Rows.fnPathSpec.post enc Try.prog Try.f6 false true false false) := by
  refine returnsInHanded_of_change (C := Try.checked) Try.own started (by kernel_rfl) Try.func6
    (ChangeSpec.witness6 (enc := enc) (C := Try.checked) false ⟨#[], #[.slice none 0 0], []⟩ 8 (by kernel_rfl) (by kernel_rfl) (by kernel_rfl) (by kernel_rfl)) ?_
  intro W base args ds gs before hval0 hW hcnd _
  have hval : ∀ (j : Nat) t v, Try.f6.params[j]? = some t → args[j]? = some v → Value.okWide Try.prog W .any base t v := hval0
  have hW' := hW
  obtain ⟨p, q, hA0, hV, rfl, hfz, hnd⟩ := hW
  have hA : DataW.TrodAll enc Try.prog W 0 (fun _ => true) true Try.f6.params.toList args.toList ds p := hA0
  rw [Try.params6] at hA hval
  obtain ⟨v0, d0, rfl, rfl, h0⟩ := trodAll_one hA
  obtain ⟨rfl, rfl⟩ := trodVars_none hV
  have h0k := h0
  obtain ⟨a0, len, cap, rfl⟩ := okWide_slice Try.underlying22 (hval 0 22 v0 rfl rfl)
  obtain ⟨fuel, hf⟩ := h0
  obtain ⟨A, c, bs, hv, hr⟩ := open_bytes Try.underlying22 Try.underlying5 (by kernel_rfl) hf
  rw [hv] at h0k hval hf ⊢
  clear hA0 hval0
  simp only [List.append_nil] at hW'
  rw [hv] at hW'
  refine (lawPath A c bs W hr).mono fun e W' ⟨he, hb⟩ => ?_
  subst he
  exact ⟨_, rfl, _, _, _, [], _, [], hW', trodAll_mk1 (shut_bool Try.underlying4 _), trodAll_mk1 (Below.trod Try.laidOut (by kernel_rfl) (of_decide_eq_true (by kernel_rfl)) h0k hb (fun x hx => by simpa using hW'.lt x hx)), rfl, hb.frame _, fun h => by cases h⟩

theorem fnPath_holds : Rows.FnPathSaid :=
  OpenClaim.holds_of_wide 6 Try.f6 rfl rfl rfl rfl rfl rfl rfl ⟨rfl, rfl, rfl, rfl, rfl⟩ rfl rfl rfl rfl rfl (by kernel_rfl) Try.func6 (by kernel_rfl)
    (of_decide_eq_true (by kernel_rfl)) (by unfold Func.isWrapper; first | (rw [if_pos (by decide +kernel)]; kernel_rfl) | (rw [if_neg (by decide +kernel)]; exact ⟨rfl, rfl⟩))
    (fun os started H enc _ => fnPath_lifted os started H enc)

end Go.Proofs.Ytnlmiemnblppbaa
