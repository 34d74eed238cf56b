/-
  Trains that a reader draws: some list of ints.
-/
import Derived.Test.YtiiocjkhjogfkaaDoorOpenB
import Derived.Test.YtiiocjkhjogfkaaDoorTrainS
import Derived.Test.YtiiocjkhjogfkaaDoorIntS
namespace Go.Proofs.YtiiocjkhjogfkaaDoor
open Go.RowKit

/-- A drawn list of ints. -/
def DrIs (w : World) (R : Nat) (e : Ending) (w' : World) : Prop :=
  ∃ A c zs, e = .returned (.slice A zs.length c) ∧ RdI w' A c zs ∧ zs.length ≤ 10 ∧ w.grownBy w' (some R)

theorem rd_apart {w w' : World} {R N : Nat} {e : TypeId} {s n : Nat} {v : Value} {xs : List Value} (hR : Rd w R N) (h : w'.ownsRow w.heap.size e s v n xs) : v.ownBlock = none ∨ v.ownBlock ≠ some R := by
  cases hv : v.ownBlock with
  | none => exact .inl rfl
  | some k => exact .inr fun e => by cases e; have := (h.lt _ hv).1; have := rd_lt hR; omega

set_option maxHeartbeats 2000000 in
theorem l92Train_ok (R N : Nat) (w : World) (hR : Rd w R N) (hN : N ≤ 800000) :
    Calls Tryd.prog 41 #[.pointer (some ⟨R, 0, none⟩)] w (DrIs w R) := by
  obtain ⟨i0, hi, hz0, hz1, hz2⟩ := info_parts Tryd.infoInt
  have hRlt := rd_lt hR
  go_enter Tryd.func41, Tryd.ntmps41
  have hb0 : Below w.heap.size w (w.alloc (.cells #[] 3)) := kept_new _ _
  have ho0 : (w.alloc (.cells #[] 3)).ownsRow w.heap.size 3 1 (.slice (some ⟨w.heap.size, 0, none⟩) 0 0) 0 [] := by
    simpa using World.ownsRow_lit (base := w.heap.size) (e := 3) (size := 1) w #[] 0 (Nat.le_refl _) (by decide) (by simp)
  have hR0 := rd_kept hR hb0
  have hg0 : w.grownBy (w.alloc (.cells #[] 3)) (some R) := grown_of_kept hb0 _
  go_wp2_with fail
  refine (pick_ok R N 3 _ hR0 (by omega) (by decide)).mono ?_
  rintro e w1 ⟨a, rfl, ha, hR1, hg1⟩
  have ha3 : a < 3 := by omega
  have ho1 := ho0.kept hg1 (rd_apart hR ho0)
  have hg01 := grown_trans' hg0 hg1
  obtain ⟨n, hn⟩ : ∃ n : Nat, n = 2 * (1 + a) := ⟨_, rfl⟩
  have hn6 : 2 ≤ n ∧ n ≤ 6 := by omega
  have en : 2 * (1 + (a : Int)) = (n : Int) := by omega
  clear hb0 ho0 hR0 hg0 hg1 ha hn
  go_wp2_with fail
  clear en ha3
  go_loopw [3, 5] (fun v i wr => ∃ (t : Nat) (zs : List Int), t ≤ n ∧ i = .int .i64 t ∧ wr.ownsRow w.heap.size 3 1 v zs.length (zs.map (.int .i64)) ∧ zs.length = t ∧ Rd wr R (N + 1 + t) ∧ w.grownBy wr (some R)) (fun _ i _ => n - (intOf i).toNat)
  case atStart => exact ⟨0, [], by omega, rfl, ho1, by simp, hR1, hg01⟩
  case round =>
    obtain ⟨t, zs, ht, rfl, ho, hl, hRr, hgr⟩ := hrel
    clear ho1 hR1 hg01
    by_cases hlt : t < n
    · have hlt' : (t : Int) < (n : Int) := by omega
      go_wp2_with fail
      refine (pick_ok R _ 60 _ hRr (by omega) (by decide)).mono ?_
      rintro e w2 ⟨x, rfl, hx, hR2, hg2⟩
      have hx' : x < 60 := by omega
      have ho2 := ho.kept hg2 (rd_apart hR ho)
      have hg02 := grown_trans' hgr hg2
      have hsz2 := hg02.size
      clear ho hg2 hgr hRr hx
      go_wp2_with (at_builtin; refine wpList_append_one w2 rfl _ _ 29 rfl w.heap.size 3 i0 _ 1 8 Tryd.underlying29 hi hz0 hz1 hz2 rfl (by decide) _ _ _ rfl ho2 [.int .i64 (6 + (x : Int))] _ _ rfl rfl (by simp [Value.oneCell']) (by omega) (by decide) hsz2 rfl (by simp) ?_)
      intro g6 cap6 w6 ho6 hg6 hr6
      have hR6 := rd_grown hR2 hg6 (fun k hk => Nat.lt_of_lt_of_le hRlt (hr6 k hk))
      have hg06 := grown_new hg02 hg6 hr6
      clear ho2 hg6 hr6 hR2 hg02
      go_wp2_with fail
      go_roundw
      case rel => exact ⟨t + 1, zs ++ [6 + (x : Int)], by omega, by go_num, by rw [← hl] at ho6 ⊢; simpa using ho6, by simp; omega, rd_more hR6 (by omega), hg06⟩
      case measure => simp [intOf]; omega
    · obtain rfl : t = n := by omega
      go_wp2_with fail
      refine (pick_ok R _ 20 _ hRr (by omega) (by decide)).mono ?_
      rintro e w5 ⟨c, rfl, hc, hR5, hg5⟩
      have hc' : c < 20 := by omega
      have ho5 := ho.kept hg5 (rd_apart hR ho)
      have hg05 := grown_trans' hgr hg5
      clear ho hg5 hgr hc hRr
      obtain ⟨z, zs', rfl⟩ : ∃ z r, zs = z :: r := by
        cases zs with
        | nil => simp at hl; omega
        | cons z r => exact ⟨z, r, rfl⟩
      have HO := hide ho5
      rcases ho5.2 with ⟨rfl, h0⟩ | ⟨g, cap, cur, rfl, hB, hg, hnc, hcap, hsz, htk⟩
      · simp at h0
      · have hlc : zs'.length + 1 ≤ cap := by simpa using hnc
        have hcl : cap ≤ 9223372036854775807 := by unfold maxLen at hcap; omega
        have hl' : zs'.length + 1 = t := by simpa using hl
        have hgl : g < w5.heap.size := lt_of_block hg
        have k0 : w5.cell? ⟨g, 0, none⟩ = some (.int .i64 z) := by
          rw [HO.out.cellAt _ (by simp)]; simp
        have f0 := HO.out.frozenAt 0
        have hgw : w.heap.size ≤ g := by omega
        clear ho5 hcap hsz htk hg hB hnc hl hR5 hi hz0 hz1 hz2
        by_cases c0 : (c : Int) = 0
        · go_wp2_with fail
          go_ret
          refine ⟨some ⟨g, 1, none⟩, cap - 1, zs', by simp; omega, ⟨⟨by simp, by omega, _, _, rfl, fun _ _ => ⟨g, 1, rfl, hgl, fun j hj => ?_⟩⟩, by omega⟩, by omega, hg05⟩
          rw [show 1 + j = j + 1 by omega, HO.out.cellAt (j + 1) (by simp; omega)]
          simp
        · by_cases c1 : (c : Int) = 1
          · go_wp2_with fail
            go_ret
            have hst := HO.out.stored 0 (.int .i64 5)
            exact ⟨_, cap, 5 :: zs', by rw [show (5 :: zs').length = t from hl']; rfl, ⟨owns_reads hst.1, by simp; omega⟩, by simp; omega, grown_new hg05 hst.2 (fun k hk => by cases hk; exact hgw)⟩
          · by_cases c2 : (c : Int) = 2
            · go_wp2_with fail
              go_ret
              have hst := HO.out.stored 0 (.int .i64 241)
              exact ⟨_, cap, 241 :: zs', by rw [show (241 :: zs').length = t from hl']; rfl, ⟨owns_reads hst.1, by simp; omega⟩, by simp; omega, grown_new hg05 hst.2 (fun k hk => by cases hk; exact hgw)⟩
            · go_wp2_with fail
              go_ret
              exact ⟨_, cap, z :: zs', by rw [show (z :: zs').length = t from hl']; rfl, ⟨owns_reads HO.out, by simp; omega⟩, by simp; omega, hg05⟩

def DrIB (w : World) (e : Ending) (w' : World) : Prop :=
  ∃ A c zs, e = .returned (.slice A zs.length c) ∧ RdI w' A c zs ∧ zs.length ≤ 10 ∧ Below w.heap.size w w'

theorem drawTurns_ok (A : Option Addr) (c : Nat) (bs : List Int) (w : World) (hc : CodeIn w A c bs) : Calls Tryd.prog 29 #[.slice A bs.length c] w (DrIB w) := by
  have H := hide hc
  clear hc
  go_enter Tryd.func29, Tryd.ntmps29
  go_wp2_with fail
  refine (l6Open_ok A c bs _ H.out.1 H.out.2.1 H.out.2.2.1 H.out.2.2.2).mono ?_
  rintro e w1 ⟨R, rfl, hR, hR1, hb1⟩
  go_wp2_with fail
  refine (l92Train_ok R 0 _ hR1 (by decide)).mono ?_
  rintro e w2 ⟨A', c', zs, rfl, hr, hl, hg2⟩
  have hb2 := kept_of_new hb1 hg2 hR
  go_wp2_with fail
  go_ret
  exact ⟨_, _, _, rfl, hr, hl, hb2⟩

theorem drawRatio_ok (A : Option Addr) (c : Nat) (bs : List Int) (w : World) (hc : CodeIn w A c bs) : Calls Tryd.prog 28 #[.slice A bs.length c] w (DrIB w) := by
  have H := hide hc
  clear hc
  go_enter Tryd.func28, Tryd.ntmps28
  go_wp2_with fail
  refine (l6Open_ok A c bs _ H.out.1 H.out.2.1 H.out.2.2.1 H.out.2.2.2).mono ?_
  rintro e w1 ⟨R, rfl, hR, hR1, hb1⟩
  go_wp2_with fail
  refine (l92Train_ok R 0 _ hR1 (by decide)).mono ?_
  rintro e w2 ⟨A', c', zs, rfl, hr, hl, hg2⟩
  have hb2 := kept_of_new hb1 hg2 hR
  go_wp2_with fail
  go_ret
  exact ⟨_, _, _, rfl, hr, hl, hb2⟩

end Go.Proofs.YtiiocjkhjogfkaaDoor
