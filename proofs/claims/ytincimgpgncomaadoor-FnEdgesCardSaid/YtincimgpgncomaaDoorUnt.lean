/-
  The program's reader of words: (*plotReader).until, the walk.
-/
import Derived.Test.YtincimgpgncomaaDoorUn
namespace Go.Proofs.YtincimgpgncomaaDoor
open Go.RowKit Go.Shelf

/-- What a reading of words leaves: the steps and the place behind, or a panic. -/
def UntilPost (r : Option (List UInt8 × List ByteArray)) (n : Nat) (v : Value) (R : Nat) (w : World) (e : Ending) (w' : World) : Prop :=
  w.grownBy w' (some R) ∧
    (match r with
      | none => e = .panicked [{ v := noProgV, recovered := false }]
      | some (o, rest) => e = .returned (.string ⟨o.toArray⟩) ∧ w'.heap[R]? = some (.cells #[v, .int .i64 ((n : Int) - rest.length)] 74 (0, 0)))

def placeOf (w : World) (R : Nat) : Int := match w.heap[R]? with
  | some (.cells #[_, .int _ q] _ _) => q
  | _ => 0

theorem placeOf_eq {w : World} {R : Nat} {v : Value} {q : Int} {T : TypeId} (h : w.heap[R]? = some (.cells #[v, .int .i64 q] T (0, 0))) : placeOf w R = q := by
  unfold placeOf
  rw [h]
  rfl

theorem reader_step {w : World} {R : Nat} {v : Value} {q : Value} {T : TypeId} (h : w.heap[R]? = some (.cells #[v, q] T (0, 0))) (n : Nat) (u : Value) : ((w.drewN n).setCell ⟨R, 1, none⟩ u).heap[R]? = some (.cells #[v, u] T (0, 0)) := by
  have h' : (w.drewN n).heap[R]? = some (.cells #[v, q] T (0, 0)) := h
  simp [World.setCell, Array.getElem?_modify]
  exact ⟨_, h, rfl⟩

theorem reader_grown (w : World) (R n : Nat) (u : Value) : w.grownBy ((w.drewN n).setCell ⟨R, 1, none⟩ u) (some R) :=
  grown_trans' (grown_of_kept (kept_drewN w n) _) ⟨rfl, rfl, rfl, by simp [World.setCell], fun k _ hk => Below.heap_setCell _ _ _ _ (fun e => hk (by simp [e]))⟩

theorem loop_not {s : ByteArray} (h : ¬ 0 < loopB s) (h2 : (s.size : Int) = 2) (ha : (s[0].toNat : Int) = 114) (hb : 49 ≤ (s[1].toNat : Int)) : decide ((s[1].toNat : Int) ≤ 57) = false := by
  refine decide_eq_false fun hc => h ?_
  rw [loop_two h2 (by omega) (by omega), if_pos ⟨by omega, by omega, by omega⟩]
  omega

theorem loop_yes {s : ByteArray} (h : 0 < loopB s) : (s.size : Int) = 2 ∧ True ∧ (∀ (h0 : 0 < s.size), (s[0].toNat : Int) = 114) ∧ (∀ (h1 : 1 < s.size), 49 ≤ (s[1].toNat : Int) ∧ (s[1].toNat : Int) ≤ 57) ∧ ∀ (h1 : 1 < s.size), (s[1].toNat : Int) - 48 = loopB s := by
  have h2 : (s.size : Int) = 2 := Decidable.byContradiction fun h2 => by rw [loop_size h2] at h; omega
  have e := loop_two h2 (by omega) (by omega)
  have hc : s[0].toNat = 114 ∧ 49 ≤ s[1].toNat ∧ s[1].toNat ≤ 57 := Decidable.byContradiction fun hc => by rw [e, if_neg hc] at h; omega
  rw [if_pos hc] at e
  exact ⟨h2, trivial, fun _ => by omega, fun _ => by omega, fun _ => by omega⟩

theorem grown_base {w w1 w2 : World} {row : Option Nat} (h : w.grownBy w1 row) (k : Below w.heap.size w1 w2) : w.grownBy w2 row :=
  ⟨k.os.trans h.os, k.tape.trans h.tape, k.output.trans h.output, Nat.le_trans h.size k.size, fun i hi hr => (k.block i hi).trans (h.block i hi hr)⟩

set_option maxRecDepth 100000 in
set_option maxHeartbeats 8000000 in
theorem until_ok (L : Nat) : ∀ (ws : List ByteArray) (v : Value) (R at0 : Nat) (br : Bool) (w : World), ws.length - at0 ≤ L → at0 ≤ ws.length → ws.length ≤ 1000000 → (br = false → at0 < ws.length) → Reads w 1 v ws.length (strs ws) → v.ownBlock ≠ some R →
    w.heap[R]? = some (.cells #[v, .int .i64 at0] 74 (0, 0)) →
    Calls Tryd.prog 54 #[.pointer (some ⟨R, 0, none⟩), .bool br] w (UntilPost (flat (ws.drop at0) br []) ws.length v R w) := by
  induction L using Nat.strongRecOn with
  | _ L ih0 =>
  intro ws v R at0 br w hL hin hn hbr hr hvR hR
  have IH := hide ih0
  clear ih0
  have Hr := hide hr
  have HvR := hide hvR
  clear hvR hr
  generalize hfin : flat (ws.drop at0) br [] = fin
  have Hfin := hide hfin
  clear hfin
  have hRlt : R < w.heap.size := (Array.getElem?_eq_some_iff.1 hR).1
  have c0 : w.cell? ⟨R, 0, none⟩ = some v := by rw [Lib.cell_of_heap hR]; rfl
  have c1 : w.cell? ⟨R, 1, none⟩ = some (.int .i64 at0) := by rw [Lib.cell_of_heap hR]; rfl
  have hB0 := bld_new w
  have hg0 : w.grownBy (w.alloc (.cells #[.pointer none, .slice none 0 0] 78)) (some R) := World.grownBy_alloc w _ _
  have hR0 : (w.alloc (.cells #[.pointer none, .slice none 0 0] 78)).heap[R]? = some (.cells #[v, .int .i64 at0] 74 (0, 0)) := (Lib.alloc_old w _ R hRlt).trans hR
  go_enter Tryd.func54, Tryd.ntmps54
  go_wp2_with fail
  generalize w.alloc (.cells #[.pointer none, .slice none 0 0] 78) = wa at *
  clear c0 c1
  go_loopw [] (fun wr => ∃ (t : Nat) (out : List UInt8), at0 ≤ t ∧ t ≤ ws.length ∧ out.length ≤ 500 ∧ (out = [] ↔ t = at0) ∧ wr.heap[R]? = some (.cells #[v, .int .i64 t] 74 (0, 0)) ∧ Bld w.heap.size w.heap.size out wr ∧ w.grownBy wr (some R) ∧ Hid (flat (ws.drop t) br out = fin)) (fun wr => ws.length - (placeOf wr R).toNat)
  case atStart => exact ⟨at0, [], Nat.le_refl _, hin, by simp, by simp, hR0, hB0, hg0, Hfin⟩
  case round =>
    obtain ⟨t, out, hit, htn, hol, hot, hRt, hbt, hgt, Hf⟩ := hrel
    clear hB0 hg0 hR0
    have hrd := reads_grown Hr.out hgt (fun _ => .inr HvR.out)
    have c0 : wr.cell? ⟨R, 0, none⟩ = some v := by rw [Lib.cell_of_heap hRt]; rfl
    have c1 : wr.cell? ⟨R, 1, none⟩ = some (.int .i64 t) := by rw [Lib.cell_of_heap hRt]; rfl
    have cf : wr.frozen? ⟨R, 1, none⟩ = false := Lib.frozen_of_heap hRt 1
    have Hrd := hide hrd
    obtain ⟨_, hm, A, c, rfl, hc⟩ := hrd
    have Hc := hide hc
    clear hc
    by_cases hlt : t < ws.length
    · have hlt' : (t : Int) < (ws.length : Int) := by omega
      obtain ⟨bk, of, rfl, hbl, hcell⟩ := Hc.out (by omega) (by omega)
      have h1 := (hcell t (by omega)).trans (show (strs ws)[t]? = some (.string ws[t]) by simp [strs, hlt])
      have Hd : Hid (ws.drop t = ws[t] :: ws.drop (t + 1)) := List.drop_eq_getElem_cons hlt
      clear hcell
      generalize ws[t] = x at h1 Hd
      have i3 : (0 : Int) ≤ (t : Int) := by omega
      go_wp2_with fail
      go_quiet (fail)
      revert nq
      intro nq1
      go_wp2_with fail
      go_quiet (fail)
      revert nq
      intro nq2
      go_wp2_with fail
      have hR1 := reader_step hRt (nq1 + nq2) (.int .i64 ((t : Int) + 1))
      have hg1 := reader_grown wr R (nq1 + nq2) (.int .i64 ((t : Int) + 1))
      generalize (wr.drewN (nq1 + nq2)).setCell ⟨R, 1, none⟩ (.int .i64 ((t : Int) + 1)) = w1 at *
      have hgt1 := grown_trans' hgt hg1
      have hb1 := bld_grown hbt hg1 hRlt
      have hrd1 := reads_grown Hrd.out hg1 (fun _ => .inr HvR.out)
      have hsz1 := hgt1.size
      clear hg1 hgt hbt h1 Hrd c0 c1 cf hm
      refine (isStep_ok x _).mono ?_
      rintro e w2 ⟨rfl, rfl⟩
      have hk9 := loopB_le x
      cases hs : stepB x with
      | some b =>
        have hfs := flat_step hs (ws.drop (t + 1)) br out
        obtain rfl := stepB_eq hs
        rw [Hid, Hd.out, hfs] at Hf
        clear hs hfs Hd
        go_wp2_with fail
        refine (write_ok w.heap.size w.heap.size out ⟨#[b]⟩ _ hb1 (by omega) (show 1 ≤ 1000000 by omega) hsz1).mono ?_
        rintro e w3 ⟨rfl, hb3, hk3⟩
        have hb3 : Bld w.heap.size w.heap.size (out ++ [b]) w3 := hb3
        generalize hout : out ++ [b] = out2 at *
        have hl2 : out2.length = out.length + 1 := by rw [← hout]; simp
        have hne2 : out2 ≠ [] := by rw [← hout]; simp
        have hgt3 := grown_base hgt1 hk3
        have hR3 := (hk3.block R hRlt).trans hR1
        clear hgt1 hk3 hR1 hb1 hrd1 hout
        by_cases h500 : out2.length ≤ 500
        · have h5 : (out2.length : Int) ≤ 500 := by omega
          rw [if_pos h500] at Hf
          have HF := hide Hf
          clear Hf hl2
          go_wp2_with fail
          refine (len_ok w.heap.size w.heap.size out2 _ hb3).mono ?_
          rintro e w4 ⟨rfl, rfl⟩
          go_wp2_with fail
          refine (need_yes _).mono ?_
          rintro e w5 ⟨rfl, rfl⟩
          go_wp2_with fail
          go_roundw
          case rel => exact ⟨t + 1, out2, by omega, by omega, h500, by constructor <;> intro h <;> first | exact absurd h hne2 | omega, hR3, hb3, hgt3, HF.out⟩
          case measure => rw [placeOf_eq hR3, placeOf_eq hRt]; omega
        · have h5 : ¬ (out2.length : Int) ≤ 500 := by omega
          rw [if_neg h500] at Hf
          subst Hf
          clear hl2
          go_wp2_with fail
          refine (len_ok w.heap.size w.heap.size out2 _ hb3).mono ?_
          rintro e w4 ⟨rfl, rfl⟩
          go_wp2_with fail
          rw [show decide ((out2.length : Int) ≤ 500) = false from decide_eq_false (by omega)]
          refine (need_no _).mono ?_
          rintro e w5 ⟨rfl, rfl⟩
          go_wp2_with fail
          exact ⟨rfl, hgt3, rfl⟩
      | none =>
        by_cases hk : 0 < loopB x
        · have hfl := flat_loop hs hk (ws.drop (t + 1)) br out
          rw [Hid, Hd.out, hfl] at Hf
          have hih := IH.out (ws.length - (t + 1)) (by omega) ws (.slice (some ⟨bk, of, none⟩) ws.length c) R (t + 1) true w1 (by omega) (by omega) hn (by simp) hrd1 HvR.out hR1
          obtain ⟨hx2, hx0, hxa, hxb, hxk⟩ := loop_yes hk
          have p0 : 0 < x.size := by omega
          have p1 : 1 < x.size := by omega
          have hxa := hxa p0
          have hxc := (hxb p1).2
          have hxb := (hxb p1).1
          have hxk := hxk p1
          have hcl : (x.toList == [93]) = false := by
            refine beq_eq_false_iff_ne.2 fun e => ?_
            rw [bytes_list] at e
            have e1 : x.size = x.data.toList.length := rfl
            rw [e] at e1
            simp at e1
            omega
          have hdr : ∀ o rest, flat (ws.drop (t + 1)) true [] = some (o, rest) → o.length ≤ 500 ∧ o ≠ [] ∧ rest = ws.drop (ws.length - rest.length) ∧ rest.length ≤ ws.length - (t + 1) := by
            intro o rest h
            have h1 := flat_drop h
            have h2 := flat_rest h
            have h3 := flat_ne h
            rw [List.length_drop] at h1 h2
            refine ⟨flat_len h, h3, ?_, h2⟩
            rw [List.drop_drop] at h1
            rw [h1]
            congr 1
            rw [List.length_drop]
            rw [h1, List.length_drop] at h2
            omega
          clear hfl hs Hd hR1 hrd1
          generalize flat (ws.drop (t + 1)) true [] = rb at hih hdr Hf
          unfold UntilPost at hih
          generalize loopB x = k at *
          cases rb with
          | none =>
            dsimp only at hih Hf
            subst Hf
            go_wp2_with fail
            refine (need_yes _).mono ?_
            rintro e w5 ⟨rfl, rfl⟩
            go_wp2_with fail
            refine hih.mono ?_
            rintro e w3 ⟨hg3, rfl⟩
            go_wp2_with fail
            exact ⟨rfl, grown_trans' hgt1 hg3, rfl⟩
          | some rb =>
            obtain ⟨body, rest⟩ := rb
            obtain ⟨hbl5, hbne, hrs, hrl⟩ := hdr body rest rfl
            have Hrs := hide hrs
            dsimp only at hih Hf
            have HF := hide Hf
            clear hdr hrs Hf
            have hb5 : (body.length : Int) ≤ 500 := by omega
            go_wp2_with fail
            refine (need_yes _).mono ?_
            rintro e w5 ⟨rfl, rfl⟩
            go_wp2_with fail
            refine hih.mono ?_
            rintro e w3 ⟨hg3, rfl, hR3⟩
            have hgt3 := grown_trans' hgt1 hg3
            have hb3 := bld_grown hb1 hg3 hRlt
            clear hgt1 hg3 hb1 hih
            go_wp2_with fail
            refine (need_yes _).mono ?_
            rintro e w5 ⟨rfl, rfl⟩
            go_wp2_with fail
            have hlen : body.toArray.size * k ≤ 500 * 9 := by rw [List.size_toArray]; exact Nat.mul_le_mul hbl5 hk9
            have hrl2 : (repB k body).length ≤ 500 * 9 := by rw [repB_len, Nat.mul_comm]; exact Nat.mul_le_mul hbl5 hk9
            have hrn : repB k body ≠ [] := fun e => by
              have e1 := repB_len k body
              rw [e] at e1
              have : 0 < k * body.length := Nat.mul_pos hk (List.length_pos_iff.2 hbne)
              simp only [List.length_nil] at e1
              omega
            refine (repeat_ok ⟨body.toArray⟩ k w3 (by omega) (show body.toArray.size * k ≤ 1000000 by omega)).mono ?_
            rintro e w4 ⟨rfl, hk4⟩
            rw [show (⟨body.toArray⟩ : ByteArray).data.toList = body from rfl]
            have hb4 := bld_grown hb3 (grown_of_kept hk4 (some R)) hRlt
            have hR4 := (hk4.block R (Nat.lt_of_lt_of_le hRlt hgt3.size)).trans hR3
            have hgt4 := grown_trans' hgt3 (grown_of_kept hk4 (some R))
            have hsz4 := hgt4.size
            clear hb3 hR3 hgt3 hk4 hlen
            generalize repB k body = rp at *
            go_wp2_with fail
            refine (write_ok w.heap.size w.heap.size out ⟨rp.toArray⟩ w4 hb4 (by omega) (show rp.toArray.size ≤ 1000000 by rw [List.size_toArray]; omega) hsz4).mono ?_
            rintro e w5 ⟨rfl, hb5', hk5⟩
            have hb5' : Bld w.heap.size w.heap.size (out ++ rp) w5 := hb5'
            have hgt5 := grown_base hgt4 hk5
            have hR5 := (hk5.block R hRlt).trans hR4
            have hne2 : out ++ rp ≠ [] := by simp [hrn]
            have hxne := hide hrn
            clear hgt4 hk5 hR4 hb4 hrn
            generalize hout : out ++ rp = out2 at *
            by_cases h500 : out2.length ≤ 500
            · have h5 : (out2.length : Int) ≤ 500 := by omega
              have HF := HF.out
              rw [if_pos h500] at HF
              have HF := hide HF
              clear hout
              go_wp2_with fail
              refine (len_ok w.heap.size w.heap.size out2 w5 hb5').mono ?_
              rintro e w6 ⟨rfl, rfl⟩
              go_wp2_with fail
              refine (need_yes _).mono ?_
              rintro e w7 ⟨rfl, rfl⟩
              go_wp2_with fail
              go_roundw
              case rel => exact ⟨ws.length - rest.length, out2, by omega, by omega, h500, by constructor <;> intro h <;> first | exact absurd h hne2 | omega, by rw [show ((ws.length - rest.length : Nat) : Int) = (ws.length : Int) - (rest.length : Int) by omega]; exact hR5, hb5', hgt5, by rw [Hid, ← Hrs.out]; exact HF.out⟩
              case measure => rw [placeOf_eq hR5, placeOf_eq hRt]; omega
            · have HF := HF.out
              rw [if_neg h500] at HF
              subst HF
              clear hout
              go_wp2_with fail
              refine (len_ok w.heap.size w.heap.size out2 w5 hb5').mono ?_
              rintro e w6 ⟨rfl, rfl⟩
              go_wp2_with fail
              rw [show decide ((out2.length : Int) ≤ 500) = false from decide_eq_false (by omega)]
              refine (need_no _).mono ?_
              rintro e w7 ⟨rfl, rfl⟩
              go_wp2_with fail
              exact ⟨rfl, hgt5, rfl⟩
        · have hfl := flat_else hs hk (ws.drop (t + 1)) br out
          rw [Hid, Hd.out, hfl] at Hf
          have hcl : (x.toList == [93]) = closeB x := by
            rw [bytes_list]
            unfold closeB
            by_cases h : x.data.toList = [93] <;> simp [h]
          have hHk := hide hk
          clear hfl hs Hd hk hk9
          cases hcb : closeB x with
          | false =>
            rw [hcb] at hcl Hf
            rw [if_neg (by simp)] at Hf
            subst Hf
            clear hcb
            go_wp2_with fail
            all_goals
              first
              | (refine (need_no _).mono ?_
                 rintro e w5 ⟨rfl, rfl⟩
                 go_wp2_with fail
                 exact ⟨rfl, hgt1, rfl⟩)
              | (rw [loop_not hHk.out (by assumption) (by assumption) (by assumption)]
                 refine (need_no _).mono ?_
                 rintro e w5 ⟨rfl, rfl⟩
                 go_wp2_with fail
                 exact ⟨rfl, hgt1, rfl⟩)
          | true =>
            rw [hcb] at hcl Hf
            clear hcb hHk
            cases br with
            | false =>
              rw [if_neg (by simp)] at Hf
              subst Hf
              go_wp2_with fail
              refine (need_no _).mono ?_
              rintro e w5 ⟨rfl, rfl⟩
              go_wp2_with fail
              exact ⟨rfl, hgt1, rfl⟩
            | true =>
              by_cases h0 : out = []
              · subst h0
                rw [if_neg (by simp)] at Hf
                subst Hf
                obtain rfl : t = at0 := hot.1 rfl
                clear hot
                have c1 : w1.cell? ⟨R, 1, none⟩ = some (.int .i64 ((t : Int) + 1)) := by rw [Lib.cell_of_heap hR1]; rfl
                go_wp2_with fail
                refine (need_no _).mono ?_
                rintro e w5 ⟨rfl, rfl⟩
                go_wp2_with fail
                exact ⟨rfl, hgt1, rfl⟩
              · have h0' : (at0 : Int) < (t : Int) := by
                  have : ¬ t = at0 := fun e => h0 (hot.2 e)
                  omega
                have c1 : w1.cell? ⟨R, 1, none⟩ = some (.int .i64 ((t : Int) + 1)) := by rw [Lib.cell_of_heap hR1]; rfl
                rw [if_pos ⟨rfl, rfl, h0⟩] at Hf
                subst Hf
                go_wp2_with fail
                refine (need_yes _).mono ?_
                rintro e w5 ⟨rfl, rfl⟩
                go_wp2_with fail
                refine (string_ok w.heap.size w.heap.size out _ hb1 hsz1).mono ?_
                rintro e w5 ⟨rfl, hk5⟩
                go_wp2_with fail
                go_ret
                have he : (ws.length : Int) - ((ws.drop (t + 1)).length : Int) = (t : Int) + 1 := by rw [List.length_drop]; omega
                exact ⟨grown_base hgt1 hk5, rfl, by rw [he]; exact (hk5.block R hRlt).trans hR1⟩
    · obtain rfl : t = ws.length := by omega
      have h1' : ¬ (ws.length : Int) < (ws.length : Int) := by omega
      rw [Hid, List.drop_length, flat_nil] at Hf
      cases br with
      | false =>
        have h0 : out ≠ [] := fun h0 => by
          have := hot.1 h0
          have := hbr rfl
          omega
        rw [if_neg (by simp [h0])] at Hf
        subst Hf
        have hb1 := hbt
        have hsz1 := hgt.size
        clear hbt hot hbr h0
        go_wp2_with fail
        go_quiet (fail)
        go_wp2_with fail
        refine (need_yes _).mono ?_
        rintro e w5 ⟨rfl, rfl⟩
        go_wp2_with fail
        refine (string_ok w.heap.size w.heap.size out (wr.drewN nq) hb1 hsz1).mono ?_
        rintro e w5 ⟨rfl, hk5⟩
        go_wp2_with fail
        go_ret
        exact ⟨grown_base (grown_trans' hgt (grown_of_kept (kept_drewN _ _) _)) hk5, rfl, (hk5.block R hRlt).trans (hRt.trans (by simp))⟩
      | true =>
        rw [if_pos (.inl rfl)] at Hf
        subst Hf
        clear hbt hot hbr
        go_wp2_with fail
        go_quiet (fail)
        go_wp2_with fail
        refine (need_no _).mono ?_
        rintro e w5 ⟨rfl, rfl⟩
        go_wp2_with fail
        exact ⟨rfl, grown_trans' hgt (grown_of_kept (kept_drewN _ _) _), rfl⟩

end Go.Proofs.YtincimgpgncomaaDoor
