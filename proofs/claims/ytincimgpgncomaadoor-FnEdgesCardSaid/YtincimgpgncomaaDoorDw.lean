/-
  The reference draws plotter programs.
-/
import Derived.Test.YtincimgpgncomaaDoorPv
import Derived.Test.YtincimgpgncomaaDoorOpenB
import Derived.Laws.IdiomStrings
namespace Go.Proofs.YtincimgpgncomaaDoor
open Go.RowKit

set_option maxRecDepth 100000 in
set_option maxHeartbeats 1000000 in
theorem dec_ok (n : Nat) (w : World) (hn : n < 10) : Calls Tryd.prog 78 #[.int .i64 n] w fun e w' => ∃ s : ByteArray, e = .returned (.string s) ∧ s.size = 1 ∧ Below w.heap.size w w' := by
  have h1 : (n : Int) < 10 := by omega
  have h0 : ¬ (n : Int) < 0 := by omega
  have h2 : ¬ (n : Int) < -9223372036854775807 := by omega
  have q : IntKind.i64.wrap (48 + (n : Int)) = 48 + n := IntWalk.i64_in _ (by omega)
  go_enter Tryd.func78, Tryd.ntmps78
  have hcv : (convert 26 9 (.slice (some ⟨w.heap.size, 0, none⟩) 1 1)).run Tryd.prog (w.alloc (.cells #[.int .u8 (48 + (n : Int))] 5)) = .ok (.string ⟨#[UInt8.ofNat (48 + n)]⟩) (w.alloc (.cells #[.int .u8 (48 + (n : Int))] 5)) := by
    refine run_convert_bytes_back _ _ _ 5 ⟨w.heap.size, 0, none⟩ 1 [UInt8.ofNat (48 + n)] Tryd.underlying26 Tryd.underlying5 Tryd.underlying9 fun j hj => ?_
    have hj0 : j = 0 := by simp at hj; exact hj
    subst hj0
    have := Lib.cell_of_heap (heap_alloc_new w (.cells #[.int .u8 (48 + (n : Int))] 5)) 0
    rw [Addr.add_lit]
    refine this.trans ?_
    simp
    omega
  go_wp2_with fail
  go_ret
  exact ⟨_, rfl, rfl, kept_new _ _⟩

theorem reads_lit (w : World) (xs : List ByteArray) : Reads (w.alloc (.cells (strs xs).toArray 9)) 1 (.slice (some ⟨w.heap.size, 0, none⟩) xs.length xs.length) xs.length (strs xs) ∨ 1000000 < xs.length := by
  by_cases h : xs.length ≤ 1000000
  · have := owns_reads (World.ownsRow_lit (base := w.heap.size) (e := 9) (size := 1) w (strs xs).toArray xs.length (Nat.le_refl _) (by unfold maxLen; omega) (by simp [strs]))
    exact .inl (by simpa using this)
  · exact .inr (by omega)

set_option maxHeartbeats 1000000 in
theorem of_ok (R N : Nat) (v : Value) (xs : List ByteArray) (w : World) (hR : Rd w R N) (hN : N ≤ 1000000) (hr : Reads w 1 v xs.length (strs xs)) (hv : v.ownBlock ≠ some R) (h0 : 0 < xs.length) (hl : xs.length ≤ 1000) :
    Calls Tryd.prog 60 #[.pointer (some ⟨R, 0, none⟩), v] w fun e w' => ∃ s, s ∈ xs ∧ e = .returned (.string s) ∧ Rd w' R (N + 1) ∧ w.grownBy w' (some R) := by
  have Hr := hide hr
  obtain ⟨_, hm, A, c, rfl, hc⟩ := hr
  clear hc
  go_enter Tryd.func60, Tryd.ntmps60
  go_wp2_with fail
  refine (pick_ok R N xs.length _ hR hN (by omega)).mono ?_
  rintro e w1 ⟨k, rfl, hk, hR1, hg1⟩
  have hkl : k < xs.length := by omega
  obtain ⟨_, _, A', c', hA, hc⟩ := reads_grown Hr.out hg1 (fun _ => .inr hv)
  simp only [Value.slice.injEq, true_and] at hA
  obtain ⟨rfl, rfl⟩ := hA
  obtain ⟨bk, of, rfl, hbl, hcell⟩ := hc (by omega) (by omega)
  have h1 := (hcell k (by omega)).trans (show (strs xs)[k]? = some (.string xs[k]) by simp [strs, hkl])
  have i1 : (0 : Int) ≤ (k : Int) := by omega
  have i2 : (k : Int) < (xs.length : Int) := by omega
  have hmem := List.getElem_mem hkl
  clear hcell hk
  generalize xs[k] = x at *
  go_wp2_with fail
  go_ret
  exact ⟨x, hmem, rfl, hR1, hg1⟩

/-- How long drawn words are at most, and how often the reader is asked. -/
def szW : Nat → Nat | 0 => 30 | d + 1 => 5 * (6 + szW d)
def pkW : Nat → Nat | 0 => 16 | d + 1 => 1 + 5 * (3 + pkW d)

def stepsT : List ByteArray := [⟨#[117]⟩, ⟨#[100]⟩, ⟨#[110]⟩, ⟨#[101]⟩, ⟨#[115]⟩, ⟨#[119]⟩, ⟨#[101]⟩, ⟨#[110]⟩, ⟨#[116]⟩]

theorem steps_one : ∀ s ∈ stepsT, s.size = 1 := by decide

def WordsPost (R N d : Nat) (w : World) (e : Ending) (w' : World) : Prop := ∃ s : ByteArray, e = .returned (.string s) ∧ s.size ≤ szW d ∧ Rd w' R (N + pkW d) ∧ w.grownBy w' (some R)

set_option maxRecDepth 100000 in
set_option maxHeartbeats 2000000 in
theorem words0_ok (R N : Nat) (w : World) (hR : Rd w R N) (hN : N ≤ 900000) : Calls Tryd.prog 61 #[.pointer (some ⟨R, 0, none⟩), .int .i64 0] w (WordsPost R N 0 w) := by
  go_enter Tryd.func61, Tryd.ntmps61
  go_wp2_with fail
  refine (pick_ok R N 5 _ hR (by omega) (by decide)).mono ?_
  rintro e w1 ⟨n, rfl, hn, hR1, hg1⟩
  have hn5 : n < 5 := by omega
  have q : IntKind.i64.wrap (1 + (n : Int)) = 1 + n := IntWalk.i64_in _ (by omega)
  clear hn
  go_wp2_with fail
  go_loopw [5, 7] (fun v i wr => ∃ (t : Nat) (acc : ByteArray), t ≤ n + 1 ∧ i = .int .i64 t ∧ v = .string acc ∧ acc.size ≤ 2 * t ∧ Rd wr R (N + 1 + t) ∧ w.grownBy wr (some R)) (fun _ i _ => n + 1 - (intOf i).toNat)
  case atStart => exact ⟨0, ⟨#[]⟩, by omega, rfl, rfl, by decide, hR1, hg1⟩
  case round =>
    obtain ⟨t, acc, ht, rfl, rfl, hsz, hRt, hgt⟩ := hrel
    clear hR1 hg1
    have s1 : ¬ 9223372036854775807 < acc.size + 1 := by omega
    have s2 : ¬ 9223372036854775807 < acc.size + 1 + 1 := by omega
    by_cases hlt : t < n + 1
    · have hlt' : (t : Int) < 1 + (n : Int) := by omega
      have hRl := rd_lt hRt
      have hrd := (reads_lit wr stepsT).resolve_right (by decide)
      have hRa := rd_kept hRt (kept_new wr (.cells (strs stepsT).toArray 9))
      have hof := of_ok R (N + 1 + t) _ stepsT _ hRa (by omega) hrd (by simp [Value.ownBlock]; omega) (by decide) (by decide)
      have hgk := kept_new wr (.cells (strs stepsT).toArray 9)
      clear hrd hRa
      have hgt' := grown_trans' hgt (grown_of_kept hgk (some R))
      by_cases h0 : t = 0
      · subst h0
        clear hRt hgk hgt
        go_wp2_with fail
        refine hof.mono ?_
        rintro e w3 ⟨s, hs, rfl, hR3, hg3⟩
        have hs1 := steps_one s hs
        have s3 : ¬ 9223372036854775807 < acc.size + s.size := by omega
        clear hof hs
        go_wp2_with fail
        go_roundw
        case rel => exact ⟨1, _, by omega, by go_num, rfl, by rw [ByteArray.size_append]; omega, hR3, grown_trans' hgt' hg3⟩
        case measure => first | (simp [intOf]; done) | (simp [intOf]; omega)
      · have h0' : (t : Int) > 0 := by omega
        clear hRt hgk hgt
        go_wp2_with fail
        refine hof.mono ?_
        rintro e w3 ⟨s, hs, rfl, hR3, hg3⟩
        have hs1 := steps_one s hs
        have s3 : ¬ 9223372036854775807 < acc.size + 1 + s.size := by omega
        clear hof hs
        go_wp2_with fail
        go_roundw
        case rel => exact ⟨t + 1, _, by omega, by go_num, rfl, by rw [ByteArray.size_append, ByteArray.size_append]; show acc.size + 1 + s.size ≤ _; omega, rd_more hR3 (by omega), grown_trans' hgt' hg3⟩
        case measure => simp [intOf]; omega
    · have hlt' : ¬ (t : Int) < 1 + (n : Int) := by omega
      go_wp2_with fail
      go_ret
      exact ⟨acc, rfl, show acc.size ≤ 30 by omega, rd_more hRt (show N + 1 + t ≤ N + 16 by omega), hgt⟩

set_option maxRecDepth 100000 in
set_option maxHeartbeats 4000000 in
theorem wordsS_ok (d R N : Nat) (w : World) (hd : d ≤ 3) (hS : szW d ≤ 1000) (hK : pkW d ≤ 1000) (hR : Rd w R N) (hN : N ≤ 700000)
    (ih : ∀ N' w, Rd w R N' → N' ≤ N + 10000 → Calls Tryd.prog 61 #[.pointer (some ⟨R, 0, none⟩), .int .i64 d] w (WordsPost R N' d w)) :
    Calls Tryd.prog 61 #[.pointer (some ⟨R, 0, none⟩), .int .i64 ((d : Int) + 1)] w (WordsPost R N (d + 1) w) := by
  have IH := hide ih
  clear ih
  have qd0 : (d : Int) + 1 > 0 := by omega
  go_enter Tryd.func61, Tryd.ntmps61
  go_wp2_with fail
  refine (pick_ok R N 5 _ hR (by omega) (by decide)).mono ?_
  rintro e w1 ⟨n, rfl, hn, hR1, hg1⟩
  have hn5 : n < 5 := by omega
  have q : IntKind.i64.wrap (1 + (n : Int)) = 1 + n := IntWalk.i64_in _ (by omega)
  clear hn
  go_wp2_with fail
  go_loopw [5, 7] (fun v i wr => ∃ (t : Nat) (acc : ByteArray), t ≤ n + 1 ∧ i = .int .i64 t ∧ v = .string acc ∧ Hid (acc.size ≤ t * (6 + szW d)) ∧ acc.size ≤ 6000 ∧ Rd wr R (N + 1 + t * (3 + pkW d)) ∧ w.grownBy wr (some R)) (fun _ i _ => n + 1 - (intOf i).toNat)
  case atStart => exact ⟨0, ⟨#[]⟩, by omega, rfl, rfl, Nat.zero_le _, by decide, by simpa using hR1, hg1⟩
  case round =>
    obtain ⟨t, acc, ht, rfl, rfl, hsz, h6, hRt, hgt⟩ := hrel
    clear hR1 hg1
    have s1 : ¬ 9223372036854775807 < acc.size + 1 := by omega
    have s2 : ¬ 9223372036854775807 < acc.size + 1 + 1 := by omega
    have hm1 : (t + 1) * (6 + szW d) = t * (6 + szW d) + (6 + szW d) := Nat.succ_mul _ _
    have hm2 : (t + 1) * (3 + pkW d) = t * (3 + pkW d) + (3 + pkW d) := Nat.succ_mul _ _
    have hm3 : t * (3 + pkW d) ≤ 5 * 1003 := Nat.mul_le_mul (by omega) (by omega)
    have hm4 : (t + 1) * (6 + szW d) ≤ 5 * (6 + szW d) ∨ ¬ t < n + 1 := by
      by_cases h : t < n + 1
      · exact .inl (Nat.mul_le_mul_right _ (by omega))
      · exact .inr h
    by_cases hlt : t < n + 1
    · have hlt' : (t : Int) < 1 + (n : Int) := by omega
      have hm5 : (t + 1) * (6 + szW d) ≤ 5 * 1006 := Nat.mul_le_mul (by omega) (by omega)
      have Hm1 := hide hm1
      have Hm2 := hide hm2
      have Hm3 := hide hm3
      have Hm5 := hide hm5
      clear hm1 hm2 hm3 hm4 hm5
      have pk := pick_ok R (N + 1 + t * (3 + pkW d)) 4 wr hRt (by have := Hm3.out; omega) (by decide)
      clear hRt
      by_cases h0 : t = 0
      · have ht0 := hide h0
        have h0' : ¬ (t : Int) > 0 := by omega
        clear h0
        go_wp2_with fail
        refine pk.mono ?_
        rintro e w2 ⟨k, rfl, hk, hR2, hg2⟩
        have hgt2 := grown_trans' hgt hg2
        clear hgt hg2 pk
        by_cases hk0 : k = 0
        · subst hk0
          clear hk
          go_wp2_with fail
          refine (pick_ok R (N + 1 + t * (3 + pkW d) + 1) 4 w2 hR2 (by have := Hm3.out; omega) (by decide)).mono ?_
          rintro e w3 ⟨m, rfl, hm, hR3, hg3⟩
          have hm4 : m < 4 := by omega
          have q2 : IntKind.i64.wrap (1 + (m : Int)) = ((1 + m : Nat) : Int) := by rw [IntWalk.i64_in _ (by omega)]; omega
          have hgt3 := grown_trans' hgt2 hg3
          clear hR2 hgt2 hg3 hm
          go_wp2_with fail
          refine (dec_ok (1 + m) w3 (by omega)).mono ?_
          rintro e w4 ⟨s4, rfl, hs4, hb4⟩
          have hR4 := rd_kept hR3 hb4
          have hgt4 := grown_trans' hgt3 (grown_of_kept hb4 (some R))
          clear hR3 hgt3 hb4
          have s5 : ¬ 9223372036854775807 < acc.size + 1 + s4.size := by omega
          have s6 : ¬ 9223372036854775807 < acc.size + 1 + s4.size + 1 := by omega
          have hw := IH.out _ w4 hR4 (by have := Hm3.out; omega)
          clear hR4
          go_wp2_with fail
          refine hw.mono ?_
          rintro e w5 ⟨s5v, rfl, hs5, hR5, hg5⟩
          have hgt5 := grown_trans' hgt4 hg5
          have s7 : ¬ 9223372036854775807 < acc.size + 1 + s4.size + 1 + s5v.size := by omega
          have s8 : ¬ 9223372036854775807 < acc.size + 1 + s4.size + 1 + s5v.size + 2 := by omega
          clear hw hgt4 hg5
          go_wp2_with fail
          go_roundw
          case rel => exact ⟨t + 1, _, by omega, by go_num, rfl, by have h1 := Hm1.out; have h2 := hsz.out; simp only [Hid, ByteArray.size_append]; show acc.size + 1 + s4.size + 1 + s5v.size + 2 ≤ _; omega, by have h1 := Hm1.out; have h2 := hsz.out; have h3 := Hm5.out; simp only [ByteArray.size_append]; show acc.size + 1 + s4.size + 1 + s5v.size + 2 ≤ _; omega, rd_more hR5 (by have := Hm2.out; omega), hgt5⟩
          case measure => simp [intOf]; omega
        · have hk0' : ¬ (k : Int) = 0 := by omega
          have hk0b : ((k : Int) == 0) = false := beq_eq_false_iff_ne.2 hk0'
          have hRl := rd_lt hR2
          have hrd := (reads_lit w2 stepsT).resolve_right (by decide)
          have hgk := kept_new w2 (.cells (strs stepsT).toArray 9)
          have hRa := rd_kept hR2 hgk
          have hof := of_ok R _ _ stepsT _ hRa (by have := Hm3.out; omega) hrd (by simp [Value.ownBlock]; omega) (by decide) (by decide)
          have hgt3 := grown_trans' hgt2 (grown_of_kept hgk (some R))
          clear hrd hRa hR2 hgt2 hgk
          go_wp2_with fail
          refine hof.mono ?_
          rintro e w3 ⟨s, hs, rfl, hR3, hg3⟩
          have hs1 := steps_one s hs
          have s5 : ¬ 9223372036854775807 < acc.size + s.size := by omega
          have hgt4 := grown_trans' hgt3 hg3
          clear hof hs hgt3 hg3
          go_wp2_with fail
          go_roundw
          case rel => exact ⟨t + 1, _, by omega, by go_num, rfl, by have h1 := Hm1.out; have h2 := hsz.out; simp only [Hid, ByteArray.size_append]; show acc.size + s.size ≤ _; omega, by have h1 := Hm1.out; have h2 := hsz.out; have h3 := Hm5.out; simp only [ByteArray.size_append]; show acc.size + s.size ≤ _; omega, rd_more hR3 (by have := Hm2.out; omega), hgt4⟩
          case measure => simp [intOf]; omega
      · have ht0 := hide h0
        have h0' : (t : Int) > 0 := by omega
        clear h0
        go_wp2_with fail
        refine pk.mono ?_
        rintro e w2 ⟨k, rfl, hk, hR2, hg2⟩
        have hgt2 := grown_trans' hgt hg2
        clear hgt hg2 pk
        by_cases hk0 : k = 0
        · subst hk0
          clear hk
          go_wp2_with fail
          refine (pick_ok R (N + 1 + t * (3 + pkW d) + 1) 4 w2 hR2 (by have := Hm3.out; omega) (by decide)).mono ?_
          rintro e w3 ⟨m, rfl, hm, hR3, hg3⟩
          have hm4 : m < 4 := by omega
          have q2 : IntKind.i64.wrap (1 + (m : Int)) = ((1 + m : Nat) : Int) := by rw [IntWalk.i64_in _ (by omega)]; omega
          have hgt3 := grown_trans' hgt2 hg3
          clear hR2 hgt2 hg3 hm
          go_wp2_with fail
          refine (dec_ok (1 + m) w3 (by omega)).mono ?_
          rintro e w4 ⟨s4, rfl, hs4, hb4⟩
          have hR4 := rd_kept hR3 hb4
          have hgt4 := grown_trans' hgt3 (grown_of_kept hb4 (some R))
          clear hR3 hgt3 hb4
          have s5 : ¬ 9223372036854775807 < acc.size + 1 + 1 + s4.size := by omega
          have s6 : ¬ 9223372036854775807 < acc.size + 1 + 1 + s4.size + 1 := by omega
          have hw := IH.out _ w4 hR4 (by have := Hm3.out; omega)
          clear hR4
          go_wp2_with fail
          refine hw.mono ?_
          rintro e w5 ⟨s5v, rfl, hs5, hR5, hg5⟩
          have hgt5 := grown_trans' hgt4 hg5
          have s7 : ¬ 9223372036854775807 < acc.size + 1 + 1 + s4.size + 1 + s5v.size := by omega
          have s8 : ¬ 9223372036854775807 < acc.size + 1 + 1 + s4.size + 1 + s5v.size + 2 := by omega
          clear hw hgt4 hg5
          go_wp2_with fail
          go_roundw
          case rel => exact ⟨t + 1, _, by omega, by go_num, rfl, by have h1 := Hm1.out; have h2 := hsz.out; simp only [Hid, ByteArray.size_append]; show acc.size + 1 + 1 + s4.size + 1 + s5v.size + 2 ≤ _; omega, by have h1 := Hm1.out; have h2 := hsz.out; have h3 := Hm5.out; simp only [ByteArray.size_append]; show acc.size + 1 + 1 + s4.size + 1 + s5v.size + 2 ≤ _; omega, rd_more hR5 (by have := Hm2.out; omega), hgt5⟩
          case measure => simp [intOf]; omega
        · have hk0' : ¬ (k : Int) = 0 := by omega
          have hk0b : ((k : Int) == 0) = false := beq_eq_false_iff_ne.2 hk0'
          have hRl := rd_lt hR2
          have hrd := (reads_lit w2 stepsT).resolve_right (by decide)
          have hgk := kept_new w2 (.cells (strs stepsT).toArray 9)
          have hRa := rd_kept hR2 hgk
          have hof := of_ok R _ _ stepsT _ hRa (by have := Hm3.out; omega) hrd (by simp [Value.ownBlock]; omega) (by decide) (by decide)
          have hgt3 := grown_trans' hgt2 (grown_of_kept hgk (some R))
          clear hrd hRa hR2 hgt2 hgk
          go_wp2_with fail
          refine hof.mono ?_
          rintro e w3 ⟨s, hs, rfl, hR3, hg3⟩
          have hs1 := steps_one s hs
          have s5 : ¬ 9223372036854775807 < acc.size + 1 + s.size := by omega
          have hgt4 := grown_trans' hgt3 hg3
          clear hof hs hgt3 hg3
          go_wp2_with fail
          go_roundw
          case rel => exact ⟨t + 1, _, by omega, by go_num, rfl, by have h1 := Hm1.out; have h2 := hsz.out; simp only [Hid, ByteArray.size_append]; show acc.size + 1 + s.size ≤ _; omega, by have h1 := Hm1.out; have h2 := hsz.out; have h3 := Hm5.out; simp only [ByteArray.size_append]; show acc.size + 1 + s.size ≤ _; omega, rd_more hR3 (by have := Hm2.out; omega), hgt4⟩
          case measure => simp [intOf]; omega
    · have hlt' : ¬ (t : Int) < 1 + (n : Int) := by omega
      go_wp2_with fail
      go_ret
      refine ⟨acc, rfl, ?_, rd_more hRt ?_, hgt⟩
      · show acc.size ≤ 5 * (6 + szW d)
        exact Nat.le_trans hsz.out (Nat.mul_le_mul_right _ (by omega))
      · show N + 1 + t * (3 + pkW d) ≤ N + (1 + 5 * (3 + pkW d))
        have : t * (3 + pkW d) ≤ 5 * (3 + pkW d) := Nat.mul_le_mul_right _ (by omega)
        omega

theorem words2_ok (R N : Nat) (w : World) (hR : Rd w R N) (hN : N ≤ 600000) : Calls Tryd.prog 61 #[.pointer (some ⟨R, 0, none⟩), .int .i64 2] w (WordsPost R N 2 w) :=
  wordsS_ok 1 R N w (by decide) (by decide) (by decide) hR (by omega) fun N' w' hR' hN' => by
    exact wordsS_ok 0 R N' w' (by decide) (by decide) (by decide) hR' (by omega) fun N2 w2 h2 hN2 => words0_ok R N2 w2 h2 (by omega)

def oddT : List ByteArray := [⟨#[]⟩, ⟨#[120]⟩, ⟨#[114, 50, 32, 93]⟩, ⟨#[114, 48, 32, 101, 32, 93]⟩, ⟨#[101, 32, 32, 101]⟩, ⟨#[114, 50, 32, 101]⟩, ⟨#[101, 32, 93]⟩, ⟨#[114, 57, 32, 114, 57, 32, 114, 57, 32, 101, 32, 93, 32, 93, 32, 93]⟩]
def someT : List ByteArray := [⟨#[100, 32, 114, 52, 32, 101, 32, 116, 32, 93]⟩, ⟨#[100, 32, 101, 32, 110, 32, 119, 32, 115]⟩, ⟨#[101, 32, 101, 32, 101, 32, 101, 32, 101, 32, 101, 32, 101, 32, 101, 32, 101, 32, 101, 32, 101, 32, 101]⟩, ⟨#[100, 32, 114, 57, 32, 114, 57, 32, 101, 32, 93, 32, 116, 32, 93]⟩]
theorem odd_len : ∀ s ∈ oddT, s.size ≤ 1000 := by decide
theorem some_len : ∀ s ∈ someT, s.size ≤ 1000 := by decide

def ProgDr (R N : Nat) (w : World) (e : Ending) (w' : World) : Prop := ∃ s : ByteArray, e = .returned (.string s) ∧ s.size ≤ 1000 ∧ Rd w' R (N + 1000) ∧ w.grownBy w' (some R)

set_option maxRecDepth 100000 in
set_option maxHeartbeats 2000000 in
theorem l92Program_ok (R N : Nat) (w : World) (hR : Rd w R N) (hN : N ≤ 100000) : Calls Tryd.prog 45 #[.pointer (some ⟨R, 0, none⟩)] w (ProgDr R N w) := by
  go_enter Tryd.func45, Tryd.ntmps45
  go_wp2_with fail
  refine (pick_ok R N 14 _ hR (by omega) (by decide)).mono ?_
  rintro e w1 ⟨k, rfl, hk, hR1, hg1⟩
  by_cases h0 : k = 0
  · subst h0
    have hrd := (reads_lit w1 oddT).resolve_right (by decide)
    have hgk := kept_new w1 (.cells (strs oddT).toArray 9)
    have hRa := rd_kept hR1 hgk
    have hRl := rd_lt hR1
    have hof := of_ok R _ _ oddT _ hRa (by omega) hrd (by simp [Value.ownBlock]; omega) (by decide) (by decide)
    have hg2 := grown_trans' hg1 (grown_of_kept hgk (some R))
    clear hrd hRa hgk hg1 hR1
    go_wp2_with fail
    refine hof.mono ?_
    rintro e w3 ⟨s, hs, rfl, hR3, hg3⟩
    have hs1 := odd_len s hs
    clear hof hs
    go_wp2_with fail
    go_ret
    exact ⟨s, rfl, hs1, rd_more hR3 (by omega), grown_trans' hg2 hg3⟩
  · have h0b : ((k : Int) == 0) = false := beq_eq_false_iff_ne.2 (by omega)
    by_cases h1 : k = 1
    · subst h1
      have hrd := (reads_lit w1 someT).resolve_right (by decide)
      have hgk := kept_new w1 (.cells (strs someT).toArray 9)
      have hRa := rd_kept hR1 hgk
      have hRl := rd_lt hR1
      have hof := of_ok R _ _ someT _ hRa (by omega) hrd (by simp [Value.ownBlock]; omega) (by decide) (by decide)
      have hg2 := grown_trans' hg1 (grown_of_kept hgk (some R))
      clear hrd hRa hgk hg1 hR1
      go_wp2_with fail
      refine hof.mono ?_
      rintro e w3 ⟨s, hs, rfl, hR3, hg3⟩
      have hs1 := some_len s hs
      clear hof hs
      go_wp2_with fail
      go_ret
      exact ⟨s, rfl, hs1, rd_more hR3 (by omega), grown_trans' hg2 hg3⟩
    · have h1b : ((k : Int) == 1) = false := beq_eq_false_iff_ne.2 (by omega)
      go_wp2_with fail
      refine (words2_ok R (N + 1) w1 hR1 (by omega)).mono ?_
      rintro e w3 ⟨s, rfl, hs, hR3, hg3⟩
      go_wp2_with fail
      go_ret
      exact ⟨s, rfl, Nat.le_trans hs (by decide), rd_more hR3 (show N + 1 + 496 ≤ N + 1000 by omega), grown_trans' hg1 hg3⟩


theorem drawValid_ok (A : Option Addr) (c : Nat) (bs : List Int) (w : World) (hc : CodeIn w A c bs) : Calls Tryd.prog 27 #[.slice A bs.length c] w fun e w' => ∃ s : ByteArray, e = .returned (.string s) ∧ s.size ≤ 1000 ∧ Below w.heap.size w w' := by
  have H := hide hc
  clear hc
  go_enter Tryd.func27, Tryd.ntmps27
  go_wp2_with fail
  refine (l6Open_ok A c bs _ H.out.1 H.out.2.1 H.out.2.2.1 H.out.2.2.2).mono ?_
  rintro e w1 ⟨R, rfl, hR, hR1, hb1⟩
  go_wp2_with fail
  refine (l92Program_ok R 0 _ hR1 (by decide)).mono ?_
  rintro e w2 ⟨s, rfl, hs, hR2, hg2⟩
  have hb2 := kept_of_new hb1 hg2 hR
  go_wp2_with fail
  go_ret
  exact ⟨s, rfl, hs, hb2⟩

theorem drawSteps_ok (A : Option Addr) (c : Nat) (bs : List Int) (w : World) (hc : CodeIn w A c bs) : Calls Tryd.prog 21 #[.slice A bs.length c] w fun e w' => ∃ s : ByteArray, e = .returned (.string s) ∧ s.size ≤ 1000 ∧ Below w.heap.size w w' := by
  have H := hide hc
  clear hc
  go_enter Tryd.func21, Tryd.ntmps21
  go_wp2_with fail
  refine (l6Open_ok A c bs _ H.out.1 H.out.2.1 H.out.2.2.1 H.out.2.2.2).mono ?_
  rintro e w1 ⟨R, rfl, hR, hR1, hb1⟩
  go_wp2_with fail
  refine (l92Program_ok R 0 _ hR1 (by decide)).mono ?_
  rintro e w2 ⟨s, rfl, hs, hR2, hg2⟩
  have hb2 := kept_of_new hb1 hg2 hR
  go_wp2_with fail
  go_ret
  exact ⟨s, rfl, hs, hb2⟩

theorem drawFlat_ok (A : Option Addr) (c : Nat) (bs : List Int) (w : World) (hc : CodeIn w A c bs) : Calls Tryd.prog 33 #[.slice A bs.length c] w fun e w' => ∃ s : ByteArray, e = .returned (.string s) ∧ s.size ≤ 1000 ∧ Below w.heap.size w w' := by
  have H := hide hc
  clear hc
  go_enter Tryd.func33, Tryd.ntmps33
  go_wp2_with fail
  refine (l6Open_ok A c bs _ H.out.1 H.out.2.1 H.out.2.2.1 H.out.2.2.2).mono ?_
  rintro e w1 ⟨R, rfl, hR, hR1, hb1⟩
  go_wp2_with fail
  refine (l92Program_ok R 0 _ hR1 (by decide)).mono ?_
  rintro e w2 ⟨s, rfl, hs, hR2, hg2⟩
  have hb2 := kept_of_new hb1 hg2 hR
  go_wp2_with fail
  go_ret
  exact ⟨s, rfl, hs, hb2⟩

theorem drawEnd_ok (A : Option Addr) (c : Nat) (bs : List Int) (w : World) (hc : CodeIn w A c bs) : Calls Tryd.prog 35 #[.slice A bs.length c] w fun e w' => ∃ s : ByteArray, e = .returned (.string s) ∧ s.size ≤ 1000 ∧ Below w.heap.size w w' := by
  have H := hide hc
  clear hc
  go_enter Tryd.func35, Tryd.ntmps35
  go_wp2_with fail
  refine (l6Open_ok A c bs _ H.out.1 H.out.2.1 H.out.2.2.1 H.out.2.2.2).mono ?_
  rintro e w1 ⟨R, rfl, hR, hR1, hb1⟩
  go_wp2_with fail
  refine (l92Program_ok R 0 _ hR1 (by decide)).mono ?_
  rintro e w2 ⟨s, rfl, hs, hR2, hg2⟩
  have hb2 := kept_of_new hb1 hg2 hR
  go_wp2_with fail
  go_ret
  exact ⟨s, rfl, hs, hb2⟩

theorem drawEdges_ok (A : Option Addr) (c : Nat) (bs : List Int) (w : World) (hc : CodeIn w A c bs) : Calls Tryd.prog 34 #[.slice A bs.length c] w fun e w' => ∃ s : ByteArray, e = .returned (.string s) ∧ s.size ≤ 1000 ∧ Below w.heap.size w w' := by
  have H := hide hc
  clear hc
  go_enter Tryd.func34, Tryd.ntmps34
  go_wp2_with fail
  refine (l6Open_ok A c bs _ H.out.1 H.out.2.1 H.out.2.2.1 H.out.2.2.2).mono ?_
  rintro e w1 ⟨R, rfl, hR, hR1, hb1⟩
  go_wp2_with fail
  refine (l92Program_ok R 0 _ hR1 (by decide)).mono ?_
  rintro e w2 ⟨s, rfl, hs, hR2, hg2⟩
  have hb2 := kept_of_new hb1 hg2 hR
  go_wp2_with fail
  go_ret
  exact ⟨s, rfl, hs, hb2⟩

theorem drawMoves_ok (A : Option Addr) (c : Nat) (bs : List Int) (w : World) (hc : CodeIn w A c bs) : Calls Tryd.prog 37 #[.slice A bs.length c] w fun e w' => ∃ s : ByteArray, e = .returned (.string s) ∧ s.size ≤ 1000 ∧ Below w.heap.size w w' := by
  have H := hide hc
  clear hc
  go_enter Tryd.func37, Tryd.ntmps37
  go_wp2_with fail
  refine (l6Open_ok A c bs _ H.out.1 H.out.2.1 H.out.2.2.1 H.out.2.2.2).mono ?_
  rintro e w1 ⟨R, rfl, hR, hR1, hb1⟩
  go_wp2_with fail
  refine (l92Program_ok R 0 _ hR1 (by decide)).mono ?_
  rintro e w2 ⟨s, rfl, hs, hR2, hg2⟩
  have hb2 := kept_of_new hb1 hg2 hR
  go_wp2_with fail
  go_ret
  exact ⟨s, rfl, hs, hb2⟩

end Go.Proofs.YtincimgpgncomaaDoor
