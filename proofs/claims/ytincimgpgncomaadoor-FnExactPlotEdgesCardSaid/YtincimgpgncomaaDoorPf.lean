/-
  The reference reads a plotter program.
-/
import Derived.Test.YtincimgpgncomaaDoorPs
import Derived.Test.YtincimgpgncomaaDoorReg
namespace Go.Proofs.YtincimgpgncomaaDoor
open Go.RowKit

theorem flatN_drop : ∀ (n : Nat) (ws : List ByteArray) (i : Bool) (out o : List UInt8) (rest : List ByteArray), flatN n ws i out = some (o, rest) → ∃ k, k ≤ ws.length ∧ rest = ws.drop k := by
  intro n
  induction n with
  | zero =>
    intro ws i out o rest h
    cases ws with
    | nil =>
      simp only [flatN] at h
      split at h
      · cases h
      · cases h; exact ⟨0, by simp, rfl⟩
    | cons w ws => simp [flatN] at h
  | succ n ih =>
    intro ws i out o rest h
    cases ws with
    | nil =>
      simp only [flatN] at h
      split at h
      · cases h
      · cases h; exact ⟨0, by simp, rfl⟩
    | cons w ws =>
      simp only [flatN] at h
      split at h
      · split at h
        · obtain ⟨k, hk, e⟩ := ih _ _ _ _ _ h
          exact ⟨k + 1, by simp; omega, by simpa using e⟩
        · cases h
      · split at h
        · split at h
          · cases h
          · rename_i body rest' hb
            obtain ⟨k, hk, e⟩ := ih _ _ _ _ _ hb
            split at h
            · obtain ⟨k', hk', e'⟩ := ih _ _ _ _ _ h
              refine ⟨k + k' + 1, ?_, ?_⟩
              · rw [e, List.length_drop] at hk'; simp; omega
              · rw [e', e, List.drop_drop]; simp
            · cases h
        · split at h
          · cases h; exact ⟨1, by simp, by simp⟩
          · cases h

theorem flat_drop {ws : List ByteArray} {i : Bool} {out o : List UInt8} {rest : List ByteArray} (h : flat ws i out = some (o, rest)) : rest = ws.drop (ws.length - rest.length) := by
  obtain ⟨k, hk, e⟩ := flatN_drop _ _ _ _ _ _ h
  have : rest.length = ws.length - k := by rw [e, List.length_drop]
  rw [this, Nat.sub_sub_self hk, e]

theorem repB_succ (j : Nat) (l : List UInt8) : repB (j + 1) l = repB j l ++ l := by simp [repB, List.replicate_succ']

theorem stepB_eq {s : ByteArray} {b : UInt8} (h : stepB s = some b) : s = ⟨#[b]⟩ := by
  have := (stepB_list h).1
  rw [bytes_list] at this
  obtain ⟨⟨l⟩⟩ := s
  simp only at this
  rw [this]

theorem loopB_le (s : ByteArray) : loopB s ≤ 9 := by
  unfold loopB
  split
  · split
    · rename_i h
      have := UInt8.le_iff_toNat_le.1 h.2.2
      have e : (57 : UInt8).toNat = 57 := rfl
      omega
    · omega
  · omega

def ones (o : List UInt8) : List Value := o.map fun b => Value.string ⟨#[b]⟩
theorem ones_app (a b : List UInt8) : ones (a ++ b) = ones a ++ ones b := by simp [ones]
theorem ones_len (a : List UInt8) : (ones a).length = a.length := by simp [ones]
theorem ones_one (a : List UInt8) : ∀ u ∈ ones a, u.oneCell' = true := by
  intro u hu
  obtain ⟨b, _, rfl⟩ := List.mem_map.1 hu
  rfl

theorem has_parts {w : World} {base size g n cap : Nat} {xs : List Value} (h : Has w base size (.slice (some ⟨g, 0, none⟩) n cap) n xs) : base ≤ g ∧ g < w.heap.size ∧ n ≤ 9223372036854775807 ∧ (∀ j, j < n * size → w.cell? ⟨g, j, none⟩ = xs[j]?) ∧ ∀ j, w.frozen? ⟨g, j, none⟩ = false := by
  rcases has_cases h with ⟨h', _⟩ | ⟨g', cap', h', h1, h2, h3, h4, h5⟩
  · simp at h'
  · simp only [Value.slice.injEq, Option.some.injEq, Addr.mk.injEq, and_true, true_and] at h'
    obtain ⟨rfl, rfl⟩ := h'
    exact ⟨h1, h2, h3, h4, h5⟩

/-- The steps that were read, and where the words behind begin. -/
def FlatPost (r : Option (List UInt8 × List ByteArray)) (n : Nat) (w : World) (e : Ending) (w' : World) : Prop :=
  ∃ (g cap : Nat) (o : List UInt8) (k : Int), e = .returned (.tuple #[.slice (some ⟨g, 0, none⟩) o.length cap, .int .i64 k]) ∧ w'.ownsRow w.heap.size 9 1 (.slice (some ⟨g, 0, none⟩) o.length cap) o.length (ones o) ∧ o.length ≤ 10000 ∧ Below w.heap.size w w' ∧
    (match r with
      | none => k = -1
      | some (s, rest) => o = s ∧ k = (n : Int) - rest.length)

set_option maxRecDepth 100000 in
set_option maxHeartbeats 8000000 in
theorem l12Flat_ok (L : Nat) : ∀ (ws : List ByteArray) (v : Value) (i : Nat) (inside : Bool) (w : World), ws.length - i ≤ L → i ≤ ws.length → ws.length ≤ 1000000 → Reads w 1 v ws.length (strs ws) →
    Calls Tryd.prog 50 #[v, .int .i64 i, .bool inside] w (FlatPost (flat (ws.drop i) inside []) ws.length w) := by
  obtain ⟨i0, hi, hz0, hz1, hz2⟩ := info_parts Tryd.infoS
  induction L using Nat.strongRecOn with
  | _ L ih0 =>
  intro ws v i inside w hL hin hn hr
  have Hr := hide hr
  have IH := hide ih0
  clear ih0
  obtain ⟨_, hm, A, c, rfl, hc⟩ := hr
  have Hc := hide hc
  clear hc
  generalize hfin : flat (ws.drop i) inside [] = fin
  have Hfin := hide hfin
  clear hfin
  go_enter Tryd.func50, Tryd.ntmps50
  go_wp2_with fail
  have hb0 : Below w.heap.size w (w.alloc (.cells #[] 9)) := kept_new _ _
  have ho0 : (w.alloc (.cells #[] 9)).ownsRow w.heap.size 9 1 (.slice (some ⟨w.heap.size, 0, none⟩) 0 0) 0 [] := by
    simpa using World.ownsRow_lit (base := w.heap.size) (e := 9) (size := 1) w #[] 0 (Nat.le_refl _) (by decide) (by simp)
  generalize w.alloc (.cells #[] 9) = wa at *
  go_loopw [1, 8] (fun ti v wr => ∃ (t g cap : Nat) (out : List UInt8), i ≤ t ∧ t ≤ ws.length ∧ ti = .int .i64 t ∧ v = .slice (some ⟨g, 0, none⟩) out.length cap ∧ out.length ≤ 500 ∧ wr.ownsRow w.heap.size 9 1 (.slice (some ⟨g, 0, none⟩) out.length cap) out.length (ones out) ∧ Below w.heap.size w wr ∧ Hid (flat (ws.drop t) inside out = fin)) (fun ti _ _ => ws.length - (intOf ti).toNat)
  case atStart => exact ⟨i, _, _, [], Nat.le_refl _, hin, rfl, rfl, by simp, ho0, hb0, Hfin⟩
  case round =>
    obtain ⟨t, g, cap, out, hit, htn, rfl, rfl, hol, ho, hb, Hf⟩ := hrel
    clear ho0 hb0
    by_cases hlt : t < ws.length
    · have hlt' : (t : Int) < (ws.length : Int) := by omega
      obtain ⟨bk, of, rfl, hbl, hcell⟩ := Hc.out (by omega) (by omega)
      have h1 := kept_cell hb ((hcell t (by omega)).trans (show (strs ws)[t]? = some (.string ws[t]) by simp [strs, hlt]))
      have Hd : Hid (ws.drop t = ws[t] :: ws.drop (t + 1)) := List.drop_eq_getElem_cons hlt
      clear hcell
      generalize ws[t] = x at h1 Hd
      have i3 : (0 : Int) ≤ (t : Int) := by omega
      go_wp2_with fail
      refine (l12Loop_ok x _).mono ?_
      rintro e w1 ⟨rfl, rfl⟩
      go_wp2_with fail
      refine (l12Step_ok x _).mono ?_
      rintro e w1 ⟨rfl, rfl⟩
      have hk9 := loopB_le x
      cases hs : stepB x with
      | some b =>
        have hfs := flat_step hs (ws.drop (t + 1)) inside out
        obtain rfl := stepB_eq hs
        rw [Hid, Hd.out, hfs] at Hf
        have hb' := hb.size
        clear hs hfs Hd
        by_cases h500 : out.length + 1 ≤ 500
        · rw [if_pos (by simpa using h500)] at Hf
          have HF := hide Hf
          clear Hf
          have h5 : (out.length : Int) + 1 ≤ 500 := by omega
          go_wp2_with (at_builtin; refine wpList_append_one wr rfl _ _ 43 rfl w.heap.size 9 i0 _ 1 16 Tryd.underlying43 hi hz0 hz1 hz2 rfl (by decide) _ _ _ rfl ho [Value.string ⟨#[b]⟩] _ _ rfl rfl (by simp [Value.oneCell']) (by omega) (by decide) hb' rfl (by simp) ?_)
          intro g6 cap6 w6 ho6 hg6 hr6
          have hb6 := kept_grown hb hg6 hr6
          clear ho hg6 hr6 hb h1
          go_wp2_with fail
          go_roundw
          case rel => exact ⟨t + 1, g6, cap6, out ++ [b], by omega, by omega, by go_num, by rw [List.length_append]; rfl, by simpa using h500, by simpa [ones] using ho6, hb6, HF.out⟩
          case measure => simp [intOf]; omega
        · rw [if_neg (by simpa using h500)] at Hf
          have h5 : ¬ (out.length : Int) + 1 ≤ 500 := by omega
          subst Hf
          go_wp2_with (at_builtin; refine wpList_append_one wr rfl _ _ 43 rfl w.heap.size 9 i0 _ 1 16 Tryd.underlying43 hi hz0 hz1 hz2 rfl (by decide) _ _ _ rfl ho [Value.string ⟨#[b]⟩] _ _ rfl rfl (by simp [Value.oneCell']) (by omega) (by decide) hb' rfl (by simp) ?_)
          intro g6 cap6 w6 ho6 hg6 hr6
          have hb6 := kept_grown hb hg6 hr6
          clear ho hg6 hr6 hb h1
          go_wp2_with fail
          go_ret2
          exact ⟨g6, cap6, out ++ [b], -1, by rw [List.length_append]; rfl, by simpa [ones] using ho6, by simp; omega, hb6, rfl⟩
      | none =>
        by_cases hk : 0 < loopB x
        · have hk' : 0 < (loopB x : Int) := by omega
          have hfl := flat_loop hs hk (ws.drop (t + 1)) inside out
          rw [Hid, Hd.out, hfl] at Hf
          have hih := IH.out (ws.length - (t + 1)) (by omega) ws (.slice (some ⟨bk, of, none⟩) ws.length c) (t + 1) true wr (by omega) (by omega) hn (reads_kept Hr.out hb)
          rw [show ((t + 1 : Nat) : Int) = (t : Int) + 1 from rfl] at hih
          have hdr : ∀ o rest, flat (ws.drop (t + 1)) true [] = some (o, rest) → o.length ≤ 500 ∧ rest = ws.drop (ws.length - rest.length) ∧ rest.length ≤ ws.length - (t + 1) := by
            intro o rest h
            have h1 := flat_drop h
            have h2 := flat_rest h
            rw [List.length_drop] at h1 h2
            refine ⟨flat_len h, ?_, h2⟩
            rw [List.drop_drop] at h1
            rw [h1]
            congr 1
            rw [List.length_drop]
            rw [h1, List.length_drop] at h2
            omega
          clear hfl hs Hd
          generalize flat (ws.drop (t + 1)) true [] = rb at hih hdr Hf
          unfold FlatPost at hih
          generalize loopB x = k at *
          cases rb with
          | none =>
            dsimp only at hih Hf
            subst Hf
            go_wp2_with fail
            refine hih.mono ?_
            rintro e w3 ⟨g2, cap2, o2, k2, rfl, ho2, hl2, hb2, rfl⟩
            have ho3 := owns_kept ho hb2
            have hb3 := kept_trans hb hb2
            go_wp2_with fail
            go_ret2
            exact ⟨g, cap, out, -1, rfl, ho3, by omega, hb3, rfl⟩
          | some rb =>
            obtain ⟨body, rest⟩ := rb
            obtain ⟨hbl5, hrs, hrl⟩ := hdr body rest rfl
            have Hrs := hide hrs
            dsimp only at hih Hf
            have HF := hide Hf
            clear hdr hrs Hf
            go_wp2_with fail
            refine hih.mono ?_
            rintro e w3 ⟨g2, cap2, o2, k2, rfl, ho2, hl2, hb2, rfl, rfl⟩
            have ho3 := owns_kept ho hb2
            have hb3 := kept_trans hb hb2
            have hgw := (ho.lt g rfl).2
            have hg2 := (ho2.lt g2 rfl).1
            obtain ⟨_, hg2w, _, hc2, _⟩ := has_parts (has_owns ho2)
            have hnews : ∀ (j : Nat) u, (ones o2)[j]? = some u → w3.cell? ((⟨g2, 0, none⟩ : Addr).add j) = some u := by
              intro j u hu
              have hj : j < o2.length * 1 := by
                have := (List.getElem?_eq_some_iff.1 hu).1
                rw [ones_len] at this
                omega
              rw [Addr.add_lit, Nat.zero_add, hc2 j hj, hu]
            have hmul : 0 ≤ (o2.length : Int) * (k : Int) ∧ (o2.length : Int) * (k : Int) ≤ 500 * 9 :=
              ⟨Int.mul_nonneg (by omega) (by omega), Int.mul_le_mul (by omega) (by omega) (by omega) (by omega)⟩
            have hend : ¬ (ws.length : Int) - (rest.length : Int) < 0 := by omega
            obtain ⟨m, hm0⟩ : ∃ m : Int, m = (o2.length : Int) * (k : Int) := ⟨_, rfl⟩
            have hrep : ((repB k o2).length : Int) = m := by rw [repB_len, hm0, Nat.mul_comm]; simp
            have Hne : Hid (g ≠ g2) := by show g ≠ g2; omega
            rw [← hm0] at hmul
            have hmm := hm0.symm
            have Hnews := hide hnews
            clear hih ho ho2 hb hb2 hc2 h1 hm0 hnews
            by_cases hm5 : m > 500
            · have HF := HF.out
              rw [if_neg (by rw [List.length_append]; omega)] at HF
              subst HF
              go_wp2_with fail
              go_ret2
              exact ⟨g, cap, out, -1, rfl, ho3, by omega, hb3, rfl⟩
            · have hm5' : m ≤ 500 := by omega
              have hrepj : ∀ j, j ≤ k → (repB j o2).length ≤ 500 := by
                intro j hj
                have h1 := Nat.mul_le_mul_right o2.length hj
                rw [repB_len]
                rw [repB_len] at hrep
                omega
              have Hrepj := hide hrepj
              clear hrepj
              go_wp2_with fail
              go_loopw [8, 13] (fun v ji wr2 => ∃ (j g3 cap3 : Nat), j ≤ k ∧ ji = .int .i64 j ∧ v = .slice (some ⟨g3, 0, none⟩) (out ++ repB j o2).length cap3 ∧ wr2.ownsRow w.heap.size 9 1 (.slice (some ⟨g3, 0, none⟩) (out ++ repB j o2).length cap3) (out ++ repB j o2).length (ones (out ++ repB j o2)) ∧ Below w.heap.size w wr2 ∧ Hid (g3 ≠ g2) ∧ g2 < wr2.heap.size ∧ Hid (∀ (j : Nat) u, (ones o2)[j]? = some u → wr2.cell? ((⟨g2, 0, none⟩ : Addr).add j) = some u)) (fun _ ji _ => k - (intOf ji).toNat)
              case atStart => exact ⟨0, g, cap, by omega, rfl, by simp [repB], by simpa [repB] using ho3, hb3, Hne, hg2w, Hnews⟩
              case round =>
                obtain ⟨j, g3, cap3, hjk, rfl, rfl, ho4, hb4, Hne4, hg4, Hn4⟩ := hrel
                have hlj := Hrepj.out j hjk
                clear ho3 hb3 Hne Hnews hg2w
                have hlo : (out ++ repB j o2).length ≤ 1000 := by rw [List.length_append]; omega
                by_cases hjl : j < k
                · have hjl' : (j : Int) < (k : Int) := by omega
                  have hs4 := hb4.size
                  go_wp2_with (at_builtin; refine wpList_append_any rfl _ _ 43 rfl w.heap.size 9 i0 _ 1 16 Tryd.underlying43 hi hz0 hz1 hz2 rfl (by decide) g3 (out ++ repB j o2).length cap3 (ones (out ++ repB j o2)) rfl ho4 ⟨g2, 0, none⟩ o2.length cap2 (ones o2) rfl (by rw [ones_len]; omega) Hn4.out (ones_one o2) (by omega) (by decide) hs4 (out ++ repB (j + 1) o2).length (by rw [repB_succ]; simp; omega) (ones (out ++ repB (j + 1) o2)) (by rw [repB_succ, ← List.append_assoc]; exact (ones_app _ _).symm) ?_)
                  intro g5 cap5 w5 ho5 hg5 hor5 hr5
                  have ho5 : w5.ownsRow w.heap.size 9 1 (.slice (some ⟨g5, 0, none⟩) (out ++ repB (j + 1) o2).length cap5) (out ++ repB (j + 1) o2).length (ones (out ++ repB (j + 1) o2)) := by
                    rw [List.length_append]
                    exact ho5
                  have hb5 := kept_grown hb4 hg5 (fun k hk => by cases hk; exact hr5)
                  have Hn5 := hide (news_grown Hn4.out hg5 (fun e => Hne4.out (by cases e; rfl)))
                  have Hne5 : Hid (g5 ≠ g2) := by
                    rcases hor5 with h | h
                    · rw [h]; exact Hne4.out
                    · show g5 ≠ g2; omega
                  have hg5s := Nat.lt_of_lt_of_le hg4 hg5.size
                  clear ho4 hg5 hor5 hr5 hb4 Hn4 Hne4 hg4
                  go_wp2_with fail
                  go_roundw
                  case rel => exact ⟨j + 1, g5, cap5, by omega, by go_num, by rw [List.length_append], ho5, hb5, Hne5, hg5s, Hn5⟩
                  case measure => simp [intOf]; omega
                · obtain rfl : j = k := by omega
                  have hjl' : ¬ (j : Int) < (j : Int) := by omega
                  clear Hn4 Hne4 hg4
                  have HF := HF.out
                  generalize hout : out ++ repB j o2 = out2 at *
                  by_cases h500 : out2.length ≤ 500
                  · have h5 : (out2.length : Int) ≤ 500 := by omega
                    rw [if_pos h500] at HF
                    have HF := hide HF
                    go_wp2_with fail
                    go_roundw
                    case rel => exact ⟨ws.length - rest.length, g3, cap3, out2, by omega, by omega, by congr 1; omega, rfl, h500, ho4, hb4, by rw [Hid, ← Hrs.out]; exact HF.out⟩
                    case measure => simp [intOf]; omega
                  · have h5 : ¬ (out2.length : Int) ≤ 500 := by omega
                    rw [if_neg h500] at HF
                    subst HF
                    go_wp2_with fail
                    go_ret2
                    exact ⟨g3, cap3, out2, -1, rfl, ho4, by omega, hb4, rfl⟩
        · have hk' : ¬ 0 < (loopB x : Int) := by omega
          have hfl := flat_else hs hk (ws.drop (t + 1)) inside out
          rw [Hid, Hd.out, hfl] at Hf
          have hcl : (x.toList == [93]) = closeB x := by
            rw [bytes_list]
            unfold closeB
            by_cases h : x.data.toList = [93] <;> simp [h]
          clear hfl hs Hd
          generalize loopB x = k at *
          cases hcb : closeB x with
          | false =>
            rw [hcb] at hcl Hf
            rw [if_neg (by simp)] at Hf
            subst Hf
            go_wp2_with fail
            go_ret2
            exact ⟨g, cap, out, -1, rfl, ho, by omega, hb, rfl⟩
          | true =>
            rw [hcb] at hcl Hf
            cases inside with
            | false =>
              rw [if_neg (by simp)] at Hf
              subst Hf
              go_wp2_with fail
              go_ret2
              exact ⟨g, cap, out, -1, rfl, ho, by omega, hb, rfl⟩
            | true =>
              by_cases h0 : out = []
              · subst h0
                rw [if_neg (by simp)] at Hf
                subst Hf
                go_wp2_with fail
                go_ret2
                exact ⟨g, cap, [], -1, rfl, ho, by simp, hb, rfl⟩
              · have h0' : 0 < (out.length : Int) := by
                  have : 0 < out.length := List.length_pos_iff.2 h0
                  omega
                rw [if_pos ⟨rfl, rfl, h0⟩] at Hf
                subst Hf
                go_wp2_with fail
                go_ret2
                exact ⟨g, cap, out, (t : Int) + 1, rfl, ho, by omega, hb, rfl, by rw [List.length_drop]; omega⟩
    · obtain rfl : t = ws.length := by omega
      have h1' : ¬ (ws.length : Int) < (ws.length : Int) := by omega
      rw [Hid, List.drop_length, flat_nil] at Hf
      cases inside
      · by_cases h0 : out = []
        · subst h0
          rw [if_pos (.inr rfl)] at Hf
          subst Hf
          go_wp2_with fail
          go_ret2
          exact ⟨g, cap, [], -1, rfl, ho, by simp, hb, rfl⟩
        · have h0' : ¬ (out.length : Int) = 0 := by
            have : 0 < out.length := List.length_pos_iff.2 h0
            omega
          rw [if_neg (by simp [h0])] at Hf
          subst Hf
          go_wp2_with fail
          go_ret2
          exact ⟨g, cap, out, ws.length, rfl, ho, by omega, hb, rfl, by simp⟩
      · rw [if_pos (.inl rfl)] at Hf
        subst Hf
        go_wp2_with fail
        go_ret2
        exact ⟨g, cap, out, -1, rfl, ho, by omega, hb, rfl⟩

end Go.Proofs.YtincimgpgncomaaDoor
