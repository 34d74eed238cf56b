/-
  Paths of rows have their single points: the law FnPathOf answers true at every code. No condition.
-/
import Derived.Test.YtnlmiemnblppbaaPo
import Derived.Test.YtnlmiemnblppbaaAl
import Derived.Test.YtnlmiemnblppbaaDr
namespace Go.Proofs.Ytnlmiemnblppbaa
open Go.ChangeShapes Go.WideShapes Go.ChangeAt Go.RowKit

theorem drawPO_ok (A : Option Addr) (c : Nat) (bs : List Int) (w : World) (hc : CodeIn w A c bs) : Calls Try.prog 25 #[.slice A bs.length c] w (DrOutC 13 w) := by
  have H := hide hc
  clear hc
  go_enter Try.func25, Try.ntmps25
  go_wp2_with fail
  refine (drawRow_ok A c bs _ H.out).mono ?_
  rintro e w1 ⟨v, cs, rfl, ho, hl, hb⟩
  go_wp2_with fail
  go_ret
  exact ⟨v, cs, rfl, ho, hl, hb⟩

theorem implSP_ok (c : C8) (w : World) (h : c.small 1000000) :
    Calls Try.prog 26 #[c.val] w fun e w' => e = .returned (.tuple #[.complex .f32 (sumZ c 8).1 (sumZ c 8).2, .bool true]) ∧ Below w.heap.size w w' := by
  have hbox := boxed w c 51
  have hs : ∀ W : World, Hid (Calls Try.prog 55 #[c.val] W fun e w' => e = .returned (.complex .f32 (sumZ c 8).1 (sumZ c 8).2) ∧ Below W.heap.size W w') := fun W => single_ok c W h
  have hv : ∀ W : World, Hid (Calls Try.prog 59 #[c.val] W fun e w' => e = .returned (.bool true) ∧ Below W.heap.size W w') := fun W => by
    have := valid_ok c W
    rw [show c.smallB 1000000 = true from decide_eq_true h] at this
    exact this
  clear h
  rw [val_spell] at hs hv ⊢
  have b0 := hbox 0 (by decide)
  have b1 := hbox 1 (by decide)
  have b2 := hbox 2 (by decide)
  have b3 := hbox 3 (by decide)
  have b4 := hbox 4 (by decide)
  have b5 := hbox 5 (by decide)
  have b6 := hbox 6 (by decide)
  have b7 := hbox 7 (by decide)
  have hkb := kept_new w (.cells #[.int .i64 c.a0, .int .i64 c.a1, .int .i64 c.a2, .int .i64 c.a3, .int .i64 c.a4, .int .i64 c.a5, .int .i64 c.a6, .int .i64 c.a7] 51)
  go_enter Try.func26, Try.ntmps26
  go_wp2_with fail
  refine (hv _).out.mono ?_
  rintro e w1 ⟨rfl, hb1⟩
  have hc1 : ∀ j, j < 8 → w1.cell? ⟨w.heap.size, j, none⟩ = some (.int .i64 (c.get j)) := fun j hj => kept_cell hb1 (hbox j hj)
  clear hbox b0 b1 b2 b3 b4 b5 b6 b7
  have b0 : w1.cell? ⟨w.heap.size, 0, none⟩ = some (.int .i64 c.a0) := hc1 0 (by decide)
  have b1 : w1.cell? ⟨w.heap.size, 1, none⟩ = some (.int .i64 c.a1) := hc1 1 (by decide)
  have b2 : w1.cell? ⟨w.heap.size, 2, none⟩ = some (.int .i64 c.a2) := hc1 2 (by decide)
  have b3 : w1.cell? ⟨w.heap.size, 3, none⟩ = some (.int .i64 c.a3) := hc1 3 (by decide)
  have b4 : w1.cell? ⟨w.heap.size, 4, none⟩ = some (.int .i64 c.a4) := hc1 4 (by decide)
  have b5 : w1.cell? ⟨w.heap.size, 5, none⟩ = some (.int .i64 c.a5) := hc1 5 (by decide)
  have b6 : w1.cell? ⟨w.heap.size, 6, none⟩ = some (.int .i64 c.a6) := hc1 6 (by decide)
  have b7 : w1.cell? ⟨w.heap.size, 7, none⟩ = some (.int .i64 c.a7) := hc1 7 (by decide)
  clear hc1
  have hb01 := kept_trans hkb hb1
  go_wp2_with fail
  refine (hs _).out.mono ?_
  rintro e w2 ⟨rfl, hb2⟩
  go_wp2_with fail
  go_ret2
  exact ⟨rfl, kept_trans hb01 hb2⟩

theorem poFin (cs : List C8) : ∀ z ∈ (poRes cs).1, FinP z := by
  unfold poRes
  split
  · rename_i h
    unfold pathRes
    split
    · intro z hz
      simp only [sPts, List.take_length, List.mem_map] at hz
      obtain ⟨c, hc, rfl⟩ := hz
      obtain ⟨i, hi, rfl⟩ := List.mem_iff_getElem.1 hc
      have := sumZ_fin _ ((row_small h).2.2 i hi) 8 (Nat.le_refl _)
      exact ⟨Nat.le_trans this.1 (by decide), Nat.le_trans this.2 (by decide)⟩
    · intro z hz; cases hz
  · intro z hz; cases hz

set_option maxRecDepth 100000 in
set_option maxHeartbeats 2000000 in
theorem lawPathOf (A : Option Addr) (c : Nat) (bs : List Int) (w : World) (hcode : CodeIn w A c bs) :
    Calls Try.prog 5 #[.slice A bs.length c] w fun e w' => e = .returned (.bool true) ∧ Below w.heap.size w w' := by
  have Hcode := hide hcode
  have hm := hcode.1.2.1
  clear hcode
  by_cases hbig : 1048576 < bs.length
  · go_enter Try.func5, Try.ntmps5
    go_wp2
    go_ret
    exact ⟨rfl, Below.refl _ _⟩
  · go_enter Try.func5, Try.ntmps5
    go_wp2_with fail
    refine (drawPO_ok A c bs _ Hcode.out).mono ?_
    rintro e w1 ⟨v, cs, rfl, ho1, hl, hb1⟩
    clear hm hbig Hcode
    have himp := fun w hr => implPO_ok v cs w hr (by omega)
    have hspe := fun w hr => specPO_ok v cs w hr (by omega)
    have hfz := poFin cs
    have hcase : (poRes cs).2 = false ∨ ((poRes cs).2 = true ∧ (poRes cs).1 = sPts cs cs.length ∧ rowB cs = true) := by
      unfold poRes
      split
      · rename_i h
        unfold pathRes
        split
        · exact .inr ⟨rfl, rfl, h⟩
        · exact .inl rfl
      · exact .inl rfl
    unfold PoPost at himp hspe
    obtain ⟨r, hr⟩ : ∃ r, poRes cs = r := ⟨_, rfl⟩
    rw [hr] at himp hspe hfz hcase
    clear hr
    obtain ⟨zs, ok⟩ := r
    dsimp only at himp hspe hfz hcase
    have Himp := hide himp
    have Hspe := hide hspe
    have Hfz := hide hfz
    have Hr1 := hide (owns_reads ho1)
    clear himp hspe hfz ho1
    go_wp2_with fail
    refine (Himp.out _ Hr1.out).mono ?_
    rintro e w2 ⟨v2, rfl, ho2, hb2⟩
    have Hr2 := hide (reads_kept Hr1.out hb2)
    have hb02 := kept_trans hb1 hb2
    clear Hr1 hb1 hb2
    go_wp2_with fail
    refine (Hspe.out _ Hr2.out).mono ?_
    rintro e w3 ⟨v3, rfl, ho3, hb3⟩
    have Hr3 := hide (reads_kept Hr2.out hb3)
    have hb03 := kept_trans hb02 hb3
    have ho2_3 := has_kept ho2 hb3
    clear Hr2 hb02 ho2 hb3
    rcases hcase with rfl | ⟨rfl, rfl, hin⟩
    · go_wp2_with fail
      refine (samePoints_ok _ _ zs _ (has_reads ho2_3) (has_reads ho3) Hfz.out).mono ?_
      rintro e w4 ⟨rfl, hb4⟩
      go_wp2_with fail
      refine (samePoints_ok _ _ zs _ (reads_kept (has_reads ho2_3) hb4) (reads_kept (has_reads ho3) hb4) Hfz.out).mono ?_
      rintro e w5 ⟨rfl, hb5⟩
      go_wp2_with fail
      go_ret
      exact ⟨by simp, kept_trans (kept_trans hb03 hb4) hb5⟩
    · have hlen := sPts_len cs cs.length (Nat.le_refl _)
      have Hsm := hide (row_small hin).2.2
      go_wp2_with fail
      refine (samePoints_ok _ _ _ _ (has_reads ho2_3) (has_reads ho3) Hfz.out).mono ?_
      rintro e w4 ⟨rfl, hb4⟩
      have hb04 := kept_trans hb03 hb4
      have hr4 := reads_kept Hr3.out hb4
      have hz4 := reads_kept (has_reads ho2_3) hb4
      clear ho3 ho2_3 hb4 hb03 Hr3 hin
      obtain ⟨_, _, A1, c1, rfl, hc1⟩ := hr4
      obtain ⟨_, _, A2, c2, rfl, hc2⟩ := hz4
      rw [hlen]
      go_wp2_with fail
      go_loopw [8] (fun i wr => ∃ t : Nat, t ≤ cs.length ∧ i = .int .i64 t ∧ Below w4.heap.size w4 wr) (fun i _ => cs.length - (intOf i).toNat)
      case atStart => exact ⟨0, by omega, rfl, Below.refl _ _⟩
      case round =>
        obtain ⟨t, ht, rfl, hb⟩ := hrel
        by_cases hlt : t < cs.length
        · obtain ⟨b, o, rfl, hbl, hcell⟩ := hc1 (by omega) (by omega)
          obtain ⟨b2, o2, rfl, hbl2, hcell2⟩ := hc2 (by omega) (by omega)
          have hA := cyc_cells (below_cells hb hbl hcell) t hlt
          have hzt : (sPts cs cs.length)[t]'(by rw [hlen]; exact hlt) = sumZ cs[t] 8 := by simp [sPts]
          have h2 := (hcell2 t (by omega)).trans (cCells_get (sPts cs cs.length) t (by rw [hlen]; exact hlt))
          have hfp := Hfz.out _ (List.getElem_mem (by rw [hlen]; exact hlt : t < (sPts cs cs.length).length))
          rw [hzt] at h2 hfp
          have hsp := fun W => implSP_ok cs[t] W (Hsm.out t hlt)
          clear hcell hcell2 hc1 hc2 hzt
          generalize cs[t] = p at hA h2 hfp hsp
          obtain ⟨p0, p1, p2, p3, p4, p5, p6, p7⟩ := hA
          rw [val_spell] at hsp
          have Hsp := hide hsp
          have Hsa := hide (fun W => singleAlike_ok (sumZ p 8) W hfp)
          clear hsp hfp
          generalize sumZ p 8 = z at *
          obtain ⟨zx, zy⟩ := z
          dsimp only at h2 Hsp Hsa
          have h2k := hide (show b2 < w4.heap.size from hbl2)
          go_wp2_with fail
          refine (Hsp.out _).mono ?_
          rintro e w5 ⟨rfl, hb5⟩
          have hb45 := kept_trans hb hb5
          have h5 := (hb45.cell (p := ⟨b2, o2 + t, none⟩) h2k.out).trans h2
          clear hb hb5 p0 p1 p2 p3 p4 p5 p6 p7 h2
          go_wp2_with fail
          refine (Hsa.out _).mono ?_
          rintro e w6 ⟨rfl, rfl⟩
          go_wp2_with fail
          go_roundw
          case rel => exact ⟨t + 1, by omega, by go_num, hb45⟩
          case measure => simp [intOf]; omega
        · obtain rfl : t = cs.length := by omega
          go_wp2_with fail
          go_ret
          exact ⟨by simp, kept_trans hb04 hb⟩

theorem Try.own : ownKnob Try.prog.godebug = none := by kernel_rfl
theorem Try.laidOut : laidOutB Try.prog = true := by kernel_rfl

set_option maxRecDepth 100000 in
theorem fnPathOf_lifted (os : Os) (started : os.Started) (H : Type) (enc : TypeId × Value → H) :
    ReturnsInHanded {} Try.checked os 5 .any (Rows.fnPathOfSpec.pre6 enc Try.prog Try.f5 Rows.fnPathOfRow.domain false) (Rows.fnPathOfSpec.post enc Try.prog Try.f5 false true false false) := by
  refine returnsInHanded_of_change (C := Try.checked) Try.own started (by kernel_rfl) Try.func5
    (ChangeSpec.witness6 (enc := enc) (C := Try.checked) false ⟨#[], #[.slice none 0 0], []⟩ 8 (by kernel_rfl) (by kernel_rfl) (by kernel_rfl) (by kernel_rfl)) ?_
  intro W base args ds gs before hval0 hW hcnd _
  have hval : ∀ (j : Nat) t v, Try.f5.params[j]? = some t → args[j]? = some v → Value.okWide Try.prog W .any base t v := hval0
  have hW' := hW
  obtain ⟨p, q, hA0, hV, rfl, hfz, hnd⟩ := hW
  have hA : DataW.TrodAll enc Try.prog W 0 (fun _ => true) true Try.f5.params.toList args.toList ds p := hA0
  rw [Try.params5] at hA hval
  obtain ⟨v0, d0, rfl, rfl, h0⟩ := trodAll_one hA
  obtain ⟨rfl, rfl⟩ := trodVars_none hV
  have h0k := h0
  obtain ⟨a0, len, cap, rfl⟩ := okWide_slice Try.underlying22 (hval 0 22 v0 rfl rfl)
  obtain ⟨fuel, hf⟩ := h0
  obtain ⟨A, c, bs, hv, hr⟩ := open_bytes Try.underlying22 Try.underlying5 (by kernel_rfl) hf
  rw [hv] at h0k hval hf ⊢
  clear hA0 hval0
  simp only [List.append_nil] at hW'
  rw [hv] at hW'
  refine (lawPathOf A c bs W hr).mono fun e W' ⟨he, hb⟩ => ?_
  subst he
  exact ⟨_, rfl, _, _, _, [], _, [], hW', trodAll_mk1 (shut_bool Try.underlying4 _), trodAll_mk1 (Below.trod Try.laidOut (by kernel_rfl) (of_decide_eq_true (by kernel_rfl)) h0k hb (fun x hx => by simpa using hW'.lt x hx)), rfl, hb.frame _, fun h => by cases h⟩

theorem fnPathOf_holds : Rows.FnPathOfSaid :=
  OpenClaim.holds_of_wide 5 Try.f5 rfl rfl rfl rfl rfl rfl rfl ⟨rfl, rfl, rfl, rfl, rfl⟩ rfl rfl rfl rfl rfl (by kernel_rfl) Try.func5 (by kernel_rfl)
    (of_decide_eq_true (by kernel_rfl)) (by unfold Func.isWrapper; first | (rw [if_pos (by decide +kernel)]; kernel_rfl) | (rw [if_neg (by decide +kernel)]; exact ⟨rfl, rfl⟩))
    (fun os started H enc _ => fnPathOf_lifted os started H enc)

end Go.Proofs.Ytnlmiemnblppbaa
