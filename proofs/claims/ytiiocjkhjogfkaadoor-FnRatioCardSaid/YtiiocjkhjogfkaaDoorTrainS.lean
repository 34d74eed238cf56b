/-
  The ratio of a train: the reference's.
-/
import Derived.Test.YtiiocjkhjogfkaaDoorTrain
namespace Go.Proofs.YtiiocjkhjogfkaaDoor
open Go.RowKit

theorem at_getD (zs : List Int) (j : Nat) (h : j < zs.length) : zs.getD j 0 = zs[j] := by simp [List.getD_eq_getElem?_getD, h]

theorem out_gear {zs : List Int} {j : Nat} (h : j < zs.length) (hn : ¬ gearP zs[j]) : trainOut zs = ((0, 0), false) := by
  have := gears_no h hn
  simp [trainOut, trainRes, this]

theorem out_none {zs : List Int} {k : Nat} (h : accK zs k = none) (hk : k ≤ zs.length / 2) : trainOut zs = ((0, 0), false) := by
  have := accK_none zs h _ hk
  simp [trainOut, trainRes, this]

set_option maxHeartbeats 4000000 in
theorem trainSpec_ok (A : Option Addr) (c : Nat) (zs : List Int) (w : World) (hr : RdI w A c zs) (hn : zs.length ≤ 1048576) :
    Calls Tryd.prog 18 #[.slice A zs.length c] w (IIB (trainOut zs) w) := by
  obtain ⟨⟨_, _, A', c', he, h3⟩, hc⟩ := hr
  injection he with q1 q2 q3
  subst q1; subst q3
  by_cases hl : 2 ≤ zs.length ∧ zs.length ≤ 10
  · by_cases hev : zs.length % 2 = 0
    · obtain ⟨b, o, rfl, hbl, hcell⟩ := h3 (by omega) (by omega)
      have HC := hide hcell
      have hL : lenB zs.length = true := by simp [lenB, hl, hev]
      have HL := hide hL
      have p1 : ((zs.length : Int) % 2 == 0) = true := by simp; omega
      have p2 : ((zs.length : Int) % 2 != 0) = false := by simp; omega
      clear h3 hcell hL
      go_enter Tryd.func18, Tryd.ntmps18
      go_wp2_with fail
      refine (l6In_t _ _ _ _ (by omega) (by omega)).mono ?_
      rintro e w1 ⟨rfl, rfl⟩
      go_wp2_with fail
      go_loop [6, 7, 8] (fun t' b' i => ∃ (k : Nat) (t bb : Int), k * 2 ≤ zs.length ∧ t' = .int .i64 t ∧ b' = .int .i64 bb ∧ i = .int .i64 (k * 2 : Nat) ∧ accK zs k = some (t, bb) ∧ (-1000000000 ≤ t ∧ t ≤ 1000000000) ∧ (1 ≤ bb ∧ bb ≤ 1000000000) ∧ ∀ j (hj : j < zs.length), j < k * 2 → gearP zs[j]) (fun _ _ i => zs.length - (intOf i).toNat)
      case atStart => exact ⟨0, 1, 1, by omega, rfl, rfl, rfl, rfl, by omega, by omega, fun j _ h => absurd h (by omega)⟩
      case round =>
        obtain ⟨k, t, bb, hk, rfl, rfl, rfl, hacc, ht, hbb, hup⟩ := hrel
        have Hacc := hide hacc
        have Hup := hide hup
        clear hacc hup
        by_cases hlt : k * 2 < zs.length
        · have hx : k * 2 + 1 < zs.length := by omega
          have cX := (HC.out (k * 2) (by omega)).trans (show (zs.map (Value.int .i64))[k * 2]? = some (.int .i64 zs[k * 2]) by simp [hlt])
          have cY : w.cell? ⟨b, o + (k * 2 + 1), none⟩ = some (.int .i64 zs[k * 2 + 1]) := (HC.out (k * 2 + 1) (by omega)).trans (by simp [hx])
          have gX : Hid (zs.getD (k * 2) 0 = zs[k * 2]) := at_getD zs _ hlt
          have gY : Hid (zs.getD (k * 2 + 1) 0 = zs[k * 2 + 1]) := at_getD zs _ hx
          have i1 : (0 : Int) ≤ ((k * 2 : Nat) : Int) := by omega
          have i2 : ((k * 2 : Nat) : Int) < (zs.length : Int) := by omega
          have i3 : ((k * 2 : Nat) : Int) + 1 < (zs.length : Int) := by omega
          have i4 : (((k * 2 : Nat) : Int) + 1).toNat = k * 2 + 1 := by omega
          have OX := fun h => hide (out_gear hlt h)
          have OY := fun h => hide (out_gear hx h)
          have Hup2 : gearP zs[k * 2] → gearP zs[k * 2 + 1] → Hid (∀ j (hj : j < zs.length), j < (k + 1) * 2 → gearP zs[j]) := fun h1 h2 j hj h => if e : j < k * 2 then Hup.out j hj e else if e2 : j = k * 2 then by subst e2; exact h1 else by
            obtain rfl : j = k * 2 + 1 := by omega
            exact h2
          have OutN := fun (h : accK zs (k + 1) = none) => hide (out_none h (by omega))
          have AK : Hid (accK zs (k + 1) = stepR (t, bb) zs[k * 2] zs[k * 2 + 1]) := by
            rw [Hid, accK, Hacc.out, ← gX.out, ← gY.out]; rfl
          generalize zs[k * 2] = X at *
          generalize zs[k * 2 + 1] = Y at *
          have HOX := hide OX
          have HOY := hide OY
          have HU := hide Hup2
          have HON := hide OutN
          clear OX OY Hup2 OutN
          have hnext : ((k + 1) * 2 : Nat) = k * 2 + 2 := by omega
          have HN := hide hnext
          clear hnext
          generalize hq : k * 2 = q at *
          have HQ := hide hq
          clear hq
          by_cases h1 : gearP X
          · have H1 : Hid (decide (gearP X) = true) := by simpa [Hid] using h1
            by_cases h2 : gearP Y
            · have H2 : Hid (decide (gearP Y) = true) := by simpa [Hid] using h2
              have hU := hide (HU.out h1 h2)
              have hX : 6 ≤ X ∧ X ≤ 240 := h1
              have hY : 6 ≤ Y ∧ Y ≤ 240 := h2
              obtain ⟨T, Bo, g, U, V, eT, eB, eg, eU, eV, bT, bB, bg, bU, bV⟩ := step_bd ht hbb hX hY
              have hst : Hid (accK zs (k + 1) = if -1000000000 ≤ U ∧ U ≤ 1000000000 ∧ V ≤ 1000000000 then some (U, V) else none) := by
                rw [Hid, AK.out]
                simp only [stepR]
                rw [eT, eB, eg, eU, eV]
              have e0 : IntKind.i64.wrap (t * X) = t * X := IntWalk.i64_in _ (by omega)
              have pB : -240000000000 ≤ t * X ∧ t * X ≤ 240000000000 := by omega
              have E4 : Hid (IntKind.i64.wrap (T.tdiv g) = U) := by rw [Hid, eU]; exact IntWalk.i64_in _ (by omega)
              have E5 : Hid (Bo / g = V) := by rw [Hid, ← eV]; exact (Int.tdiv_eq_ediv_of_nonneg (by omega)).symm
              have EU := hide eU
              have Eg := hide eg
              have pBo : 1 ≤ bb * Y ∧ bb * Y ≤ 240000000000 := by omega
              clear eg eU eV h1 h2 HOX HOY HU AK
              go_wp2_with fail
              refine (l9Gear_ok X _).mono ?_
              rintro e w1 ⟨rfl, rfl⟩
              rw [H1.out]
              go_wp2_with fail
              refine (l9Gear_ok Y _).mono ?_
              rintro e w1 ⟨rfl, rfl⟩
              rw [H2.out]
              go_wp2_with fail
              refine (l1Gcd_ok T Bo _ (by omega) (by omega)).mono ?_
              rintro e w1 ⟨rfl, rfl⟩
              rw [Eg.out]
              have e4 := E4.out
              have e5 := E5.out
              have eu := EU.out
              have z2 : ¬ g = 0 := by omega
              have z1 : (g == 0) = false := beq_eq_false_iff_ne.2 z2
              clear eT eB
              by_cases hu : -1000000000 ≤ U ∧ U ≤ 1000000000
              · by_cases hv : V ≤ 1000000000
                · have hacc : Hid (accK zs (k + 1) = some (U, V)) := by rw [Hid, hst.out, if_pos ⟨hu.1, hu.2, hv⟩]
                  go_wp2_with fail
                  refine (l6In_t _ _ _ _ hu.1 hu.2).mono ?_
                  rintro e w1 ⟨rfl, rfl⟩
                  go_wp2_with fail
                  go_round
                  case rel => exact ⟨k + 1, U, V, by rw [HN.out]; omega, rfl, rfl, by rw [HN.out]; go_num, hacc.out, hu, ⟨bV.1, hv⟩, hU.out.out⟩
                  case measure => simp [intOf]; omega
                · have hF : Hid (trainOut zs = ((0, 0), false)) := (HON.out (by rw [hst.out, if_neg (fun h => hv h.2.2)])).out
                  go_wp2_with fail
                  refine (l6In_t _ _ _ _ hu.1 hu.2).mono ?_
                  rintro e w1 ⟨rfl, rfl⟩
                  go_wp2_with fail
                  go_ret3
                  exact ⟨by rw [hF.out]; rfl, Below.refl _ _⟩
              · have hF : Hid (trainOut zs = ((0, 0), false)) := (HON.out (by rw [hst.out, if_neg (fun h => hu ⟨h.1, h.2.1⟩)])).out
                have Hu := hide hu
                clear hu
                go_wp2_with fail
                refine (l6In_f _ _ _ _ Hu.out).mono ?_
                rintro e w1 ⟨rfl, rfl⟩
                go_wp2_with fail
                go_ret3
                exact ⟨by rw [hF.out]; rfl, Below.refl _ _⟩
            · have H2 : Hid (decide (gearP Y) = false) := by simpa [Hid] using h2
              have hF : Hid (trainOut zs = ((0, 0), false)) := (HOY.out h2).out
              clear h1 h2 HOX HOY HU HON AK
              go_wp2_with fail
              refine (l9Gear_ok X _).mono ?_
              rintro e w1 ⟨rfl, rfl⟩
              rw [H1.out]
              go_wp2_with fail
              refine (l9Gear_ok Y _).mono ?_
              rintro e w1 ⟨rfl, rfl⟩
              rw [H2.out]
              go_wp2_with fail
              go_ret3
              exact ⟨by rw [hF.out]; rfl, Below.refl _ _⟩
          · have H1 : Hid (decide (gearP X) = false) := by simpa [Hid] using h1
            have hF : Hid (trainOut zs = ((0, 0), false)) := (HOX.out h1).out
            clear h1 HOX HOY HU HON AK
            go_wp2_with fail
            refine (l9Gear_ok X _).mono ?_
            rintro e w1 ⟨rfl, rfl⟩
            rw [H1.out]
            go_wp2_with fail
            go_ret3
            exact ⟨by rw [hF.out]; rfl, Below.refl _ _⟩
        · have hke : k = zs.length / 2 := by omega
          have hF : Hid (trainOut zs = ((t, bb), true)) := by
            have hgs : gearsB zs = true := gears_yes (fun j hj => Hup.out j hj (by omega))
            have ha := Hacc.out
            rw [hke] at ha
            simp [Hid, trainOut, trainRes, HL.out, hgs, ha]
          have hlt' : ¬ ((k * 2 : Nat) : Int) < (zs.length : Int) := by omega
          clear hke
          generalize k * 2 = q at *
          go_wp2_with fail
          go_ret3
          exact ⟨by rw [hF.out]; rfl, Below.refl _ _⟩
    · have hF : Hid (trainOut zs = ((0, 0), false)) := by
        have : lenB zs.length = false := by simp [lenB, hev]
        simp [Hid, trainOut, trainRes, this]
      have p1 : ((zs.length : Int) % 2 == 0) = false := beq_eq_false_iff_ne.2 (by omega)
      have p2 : ((zs.length : Int) % 2 != 0) = true := by simp; omega
      clear h3 hev
      go_enter Tryd.func18, Tryd.ntmps18
      go_wp2_with fail
      refine (l6In_t _ _ _ _ (by omega) (by omega)).mono ?_
      rintro e w1 ⟨rfl, rfl⟩
      go_wp2_with fail
      go_ret3
      exact ⟨by rw [hF.out]; rfl, Below.refl _ _⟩
  · have hF : Hid (trainOut zs = ((0, 0), false)) := by
      have : lenB zs.length = false := by simp [lenB]; omega
      simp [Hid, trainOut, trainRes, this]
    have hl2 : ¬ (2 ≤ (zs.length : Int) ∧ (zs.length : Int) ≤ 10) := by omega
    have HL2 := hide hl2
    clear h3 hl hl2
    go_enter Tryd.func18, Tryd.ntmps18
    go_wp2_with fail
    refine (l6In_f _ _ _ _ HL2.out).mono ?_
    rintro e w1 ⟨rfl, rfl⟩
    go_wp2_with fail
    go_ret3
    exact ⟨by rw [hF.out]; rfl, Below.refl _ _⟩

theorem turnsSpec_ok (A : Option Addr) (c : Nat) (zs : List Int) (w : World) (hr : RdI w A c zs) (hn : zs.length ≤ 1048576) :
    Calls Tryd.prog 22 #[.slice A zs.length c] w (IB2 (trainOut zs) w) := by
  have HR := hide (trainSpec_ok A c zs w hr hn)
  clear hr
  unfold IIB at HR
  unfold IB2
  generalize trainOut zs = x at *
  obtain ⟨⟨x, y⟩, b⟩ := x
  dsimp only at HR ⊢
  go_enter Tryd.func22, Tryd.ntmps22
  go_wp2_with fail
  refine HR.out.mono ?_
  rintro e w1 ⟨rfl, hb1⟩
  go_wp2_with fail
  go_ret2
  exact ⟨rfl, hb1⟩

end Go.Proofs.YtiiocjkhjogfkaaDoor
