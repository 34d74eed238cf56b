/-
  Lists of ints that the laws copy and compare; the slice of ints that comes in.
-/
import Derived.Test.YtiiocjkhjogfkaaDoorTrain
import Derived.ProofKit
import Derived.Deep.QuietTactic
import Derived.BigQuiet
namespace Go.Proofs.YtiiocjkhjogfkaaDoor
open Go.ChangeShapes Go.WideShapes Go.ChangeAt Go.RowKit

set_option maxHeartbeats 400000 in
theorem eqIntS_ok (B n : Nat) (v v' : Value) (xs : List Value) (w : World) (hw : w.ownsRow B 3 1 v n xs) (hw' : w.ownsRow B 3 1 v' n xs) (hx : ∀ i : Nat, i < n → ∃ z : Int, xs[i]? = some (.int .i64 z)) :
    Calls Tryd.prog 21 #[v, v'] w fun e w' => e = .returned (.bool true) ∧ Below w.heap.size w w' := by
  by_cases hn : n = 0
  · subst hn
    rcases owns_cases hw with ⟨rfl, _⟩ | ⟨g, cap, rfl, _⟩ <;> rcases owns_cases hw' with ⟨rfl, _⟩ | ⟨g', cap', rfl, _⟩
    all_goals
      go_enter Tryd.func21, Tryd.ntmps21
      go_wp2_with fail
      refine wp_loop_rounds 1 ?_; rw [rounds_succ]
      go_wp2
      go_ret
      exact ⟨rfl, Below.refl _ _⟩
  · rcases owns_cases hw with ⟨rfl, h0⟩ | ⟨g, cap, rfl, hB, hg, hm, hcell, _⟩
    · exact absurd h0 hn
    rcases owns_cases hw' with ⟨rfl, h0⟩ | ⟨g', cap', rfl, hB', hg', hm', hcell', _⟩
    · exact absurd h0 hn
    clear hw hw'
    simp only [Nat.mul_one] at hcell hcell'
    go_enter Tryd.func21, Tryd.ntmps21
    go_wp2_with fail
    go_loopw [5] (fun i wr => ∃ t m : Nat, t ≤ n ∧ i = .int .i64 t ∧ wr = w.drewN m) (fun i _ => n - (intOf i).toNat)
    case atStart => exact ⟨0, 0, by omega, rfl, rfl⟩
    case round =>
      obtain ⟨t, m, ht, rfl, rfl⟩ := hrel
      by_cases hlt : t < n
      · obtain ⟨z, hz⟩ := hx t hlt
        have h1 := (hcell t hlt).trans hz
        have h2 := (hcell' t hlt).trans hz
        clear hcell hcell' hz hx
        go_wp2_with fail
        go_quiet (fail)
        go_wp2
        go_roundw
        case rel => exact ⟨t + 1, _, by omega, by go_num, rfl⟩
        case measure => simp [intOf]; omega
      · go_wp2
        go_ret
        exact ⟨rfl, kept_drewN w m⟩

theorem Tryd.infoInt : (Tryd.prog.info? 3).map (fun i => (i.zero, i.size, i.bytes)) = some (some (.int .i64 0), 1, 8) := by kernel_rfl

def IntsNew (zs : List Int) (w : World) (e : Ending) (w' : World) : Prop :=
  e = .returned (.slice (some ⟨w.heap.size, 0, none⟩) zs.length zs.length) ∧ w'.ownsRow w.heap.size 3 1 (.slice (some ⟨w.heap.size, 0, none⟩) zs.length zs.length) zs.length (zs.map (.int .i64)) ∧ Below w.heap.size w w'

theorem ints_set (zs : List Int) (t : Nat) (h : t < zs.length) (u : Value) (r : List Value) (x : Int) (hx : zs[t] = x) : ((zs.take t).map (Value.int .i64) ++ u :: r).set t (.int .i64 x) = (zs.take (t + 1)).map (Value.int .i64) ++ r := by
  have hl : ((zs.take t).map (Value.int .i64)).length = t := by simp; omega
  rw [List.set_append_right _ _ (by omega), hl, Nat.sub_self, List.set_cons_zero, List.take_succ_eq_append_getElem h, hx]
  simp

set_option maxHeartbeats 1000000 in
theorem toIntS_ok (A : Option Addr) (c : Nat) (zs : List Int) (w : World) (hr : Reads w 1 (.slice A zs.length c) zs.length (zs.map (Value.int .i64))) (hn : zs.length ≤ 1048576) :
    Calls Tryd.prog 19 #[.slice A zs.length c] w (IntsNew zs w) := by
  obtain ⟨i0, hi, hz0, hz1, hz2⟩ := info_parts Tryd.infoInt
  obtain ⟨_, hm, A', c', he, hc⟩ := hr
  injection he with q1 q2 q3
  subst q1; subst q3
  go_enter Tryd.func19, Tryd.ntmps19
  go_wp2_with (at_make; refine wpList_make_full _ rfl _ _ 29 rfl w.heap.size 3 i0 _ 1 Tryd.underlying29 hi hz0 hz1 _ _ _ _ zs.length rfl rfl rfl rfl (by rw [hz2]; omega) (by unfold maxLen; omega) (Nat.le_refl _) ?_)
  intro w1 hown hgrow
  have hb1 := kept_of_grown hgrow
  clear hgrow
  go_wp2_with fail
  go_loopw [4] (fun i wr => ∃ (t : Nat) (us : List Value), t ≤ zs.length ∧ i = .int .i64 t ∧ us.length = zs.length - t ∧ wr.ownsRow w.heap.size 3 1 (.slice (some ⟨w.heap.size, 0, none⟩) zs.length zs.length) zs.length ((zs.take t).map (.int .i64) ++ us) ∧ Below w.heap.size w wr) (fun i _ => zs.length - (intOf i).toNat)
  case atStart =>
    have hl := hown.1
    exact ⟨0, _, by omega, rfl, hl.trans (by simp), by simpa using hown, hb1⟩
  case round =>
    obtain ⟨t, us, ht, rfl, hul, how, hb⟩ := hrel
    by_cases hlt : t < zs.length
    · obtain ⟨b, o, rfl, hbl, hcell⟩ := hc (by omega) (by omega)
      have h1 := (hb.cell (p := ⟨b, o + t, none⟩) hbl).trans ((hcell t (by omega)).trans (show (zs.map (Value.int .i64))[t]? = some (.int .i64 zs[t]) by simp [hlt]))
      clear hcell hc
      obtain ⟨u, us', rfl⟩ : ∃ u r, us = u :: r := by
        cases us with
        | nil => simp at hul; omega
        | cons u r => exact ⟨u, r, rfl⟩
      obtain ⟨x, hx⟩ : ∃ x, zs[t] = x := ⟨_, rfl⟩
      have hs := hide (ints_set zs t hlt u us' x hx)
      rw [hx] at h1
      have hul' : us'.length = zs.length - (t + 1) := by simp at hul; omega
      have Hul := hide hul'
      have hlen : ((zs.take t).map (Value.int .i64)).length = t := by simp; omega
      have k0 : wr.cell? ⟨w.heap.size, t, none⟩ = some u := by
        rw [how.cellAt _ (by omega), List.getElem?_append_right (by omega), hlen]
        simp
      have f0 := how.frozenAt t
      have s1 := (how.stored t (.int .i64 x)).1
      rw [hs.out] at s1
      have hbs := kept_set hb (p := ⟨w.heap.size, t, none⟩) (Nat.le_refl _) (.int .i64 x)
      have S1 := hide s1
      clear how hul hx hlen hul' s1 hs
      go_wp2_with fail
      go_roundw
      case rel => exact ⟨t + 1, us', by omega, by go_num, Hul.out, S1.out, hbs⟩
      case measure => simp [intOf]; omega
    · obtain rfl : t = zs.length := by omega
      have hu0 : us = [] := List.eq_nil_of_length_eq_zero (by omega)
      subst hu0
      rw [List.take_length, List.append_nil] at how
      have How := hide how
      clear how
      go_wp2_with fail
      go_ret
      exact ⟨rfl, How.out, hb⟩

theorem rdI_new {zs : List Int} {w' : World} {B : Nat} {v : Option Addr} (h : w'.ownsRow B 3 1 (.slice v zs.length zs.length) zs.length (zs.map (.int .i64))) : RdI w' v zs.length zs := ⟨owns_reads h, Nat.le_refl _⟩

theorem ints_each (zs : List Int) : ∀ i : Nat, i < zs.length → ∃ z : Int, (zs.map (Value.int .i64))[i]? = some (.int .i64 z) := fun i hi => ⟨zs[i], by simp [hi]⟩

section
variable {H : Type} {enc : TypeId × Value → H} {P : Program} {w : World} {spare : Nat → Bool} {held : Bool}

theorem plain_addr_i {w : World} {a : Addr} {v : Value} (h : w.cell? a = some v) : a = ⟨a.block, a.off, none⟩ := by
  obtain ⟨b, o, s⟩ := a
  have : s = none := World.cell?_spot h
  subst this
  rfl

/-- A slice of ints that came in. -/
theorem open_intsR {t e : TypeId} {fuel : Nat} {v : Value} {x : DataW H × List MemPlace} (ht : P.underlying t = some (.slice e)) (he : P.underlying e = some (.int .i64)) (hc : P.cellsOf e = 1)
    (h : DataW.trod enc P w 0 spare held fuel t [v] = some x) :
    ∃ (A : Option Addr) (c : Nat) (zs : List Int), v = .slice A zs.length c ∧ RdI w A c zs := by
  rcases open_ints ht he hc h with ⟨hcs, _⟩ | ⟨a, len, cap, zs, hcs, _, hl, hm, hz, _, hcell, hwz⟩
  · obtain rfl : v = .slice none 0 0 := by simpa using hcs
    exact ⟨none, 0, [], rfl, ⟨by simp, by simp, none, 0, rfl, fun h => absurd h (by simp)⟩, by simp⟩
  · obtain rfl : v = .slice (some a) len cap := by simpa using hcs
    have hlz : len ≤ zs.length := by rw [hz]; split <;> omega
    have e1 : (zs.take len).length = len := by simp; omega
    refine ⟨some a, cap, zs.take len, by rw [e1], ⟨by simp, by unfold maxLen at hm; omega, some a, cap, by rw [e1], fun h0 _ => ?_⟩, by omega⟩
    rw [e1] at h0
    have h00 := hcell 0 (by omega)
    rw [Addr.add_zero'] at h00
    have hp := plain_addr_i h00
    refine ⟨a.block, a.off, by rw [← hp], World.block_lt_of_cell? _ _ h00, fun j hj => ?_⟩
    rw [e1] at hj
    have hj' := hcell j (by omega)
    rw [hp, Addr.add_lit] at hj'
    rw [hj']
    simp [show j < len from by omega, show j < zs.length from by omega]

end
end Go.Proofs.YtiiocjkhjogfkaaDoor
