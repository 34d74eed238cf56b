/-
  PlotEdges, the reference's side.
-/
import Derived.Test.YtincimgpgncomaaDoorMp
import Derived.Laws.StructEq
namespace Go.Proofs.YtincimgpgncomaaDoor
open Go.RowKit

theorem edCells_get (es : List (Int × Int × Int × Int)) (t : Nat) (h : t < es.length) :
    (edCells es)[t * 4]? = some (.int .i64 (es[t]).1) ∧ (edCells es)[t * 4 + 1]? = some (.int .i64 (es[t]).2.1) ∧ (edCells es)[t * 4 + 2]? = some (.int .i64 (es[t]).2.2.1) ∧ (edCells es)[t * 4 + 3]? = some (.int .i64 (es[t]).2.2.2) := by
  induction es generalizing t with
  | nil => simp at h
  | cons e es ih =>
    cases t with
    | zero => simp [edCells]
    | succ t =>
      have := ih t (by simpa using h)
      obtain ⟨h0, h1, h2, h3⟩ := this
      have hl : ∀ j, (edCells (e :: es))[(t + 1) * 4 + j]? = (edCells es)[t * 4 + j]? := by
        intro j
        have e1 : edCells (e :: es) = [.int .i64 e.1, .int .i64 e.2.1, .int .i64 e.2.2.1, .int .i64 e.2.2.2] ++ edCells es := by simp [edCells]
        rw [e1, List.getElem?_append_right (by simp; omega)]
        congr 1
        simp
        omega
      exact ⟨(hl 0).trans h0, (hl 1).trans h1, (hl 2).trans h2, (hl 3).trans h3⟩

def edgesV (r : Option (List UInt8)) : Value := match r with
  | none => .tuple #[.int .i64 0, .int .i64 0, .bool false]
  | some o => .tuple #[.int .i64 (runB o).edges.length, .int .i64 (diffE (runB o).edges).length, .bool true]

def eqE (a b : Int × Int × Int × Int) : Bool := a.1 == b.1 && (a.2.1 == b.2.1 && (a.2.2.1 == b.2.2.1 && a.2.2.2 == b.2.2.2))

theorem eqE_iff (a b : Int × Int × Int × Int) : eqE a b = decide (a = b) := by
  obtain ⟨a1, a2, a3, a4⟩ := a
  obtain ⟨b1, b2, b3, b4⟩ := b
  by_cases h1 : a1 = b1 <;> by_cases h2 : a2 = b2 <;> by_cases h3 : a3 = b3 <;> by_cases h4 : a4 = b4 <;> simp [eqE, h1, h2, h3, h4]

theorem eqArr4 (a b : Int × Int × Int × Int) (w : World) : (Op.equalIn 10000 62 (edV a) (edV b)).run Tryd.prog w = .ok (eqE a b) w := by
  unfold edV
  rw [show (10000 : Nat) = 9999 + 1 from rfl, Op.equalIn]
  have hS := Tryd.underlying62
  have hz := Tryd.sizeOf3
  have hi := fun (a b : Int) (w : World) => run_equalIn_int (P := Tryd.prog) w 9998 3 .i64 .i64 a b Tryd.underlying3
  simp only [Sem.run_bind, run_underlying hS, Result.andThen_ok, hz]
  simp only [Std.Legacy.Range.forIn_eq_forIn_range', Std.Legacy.Range.size, Nat.sub_zero, Nat.add_sub_cancel, Nat.div_one, List.range'_succ, List.range'_zero, List.forIn_cons, List.forIn_nil]
  go_simp
  unfold eqE
  (repeat' split) <;> simp_all

theorem neqEd (a b : Int × Int × Int × Int) (w : World) : (binOp .neq 62 (edV a) (edV b)).run Tryd.prog w = .ok (.bool (!eqE a b)) w := by
  have h := eqArr4 a b w
  unfold edV at h ⊢
  rw [run_neq_struct, h]; rfl

set_option maxRecDepth 100000 in
set_option maxHeartbeats 4000000 in
theorem edgesSpec_ok (s : ByteArray) (w : World) : Calls Tryd.prog 25 #[.string s] w fun e w' => e = .returned (edgesV (progB s)) ∧ Below w.heap.size w w' := by
  have hp := fun w => l12Program_ok s w
  have hst : ∀ o, progB s = some o → ∀ b ∈ o, isStepB b := fun o h b hb => progB_steps h b hb
  generalize progB s = r at hp hst ⊢
  unfold ProgPost at hp
  have Hp := hide hp
  clear hp
  cases r with
  | none =>
    clear hst
    go_enter Tryd.func25, Tryd.ntmps25
    go_wp2_with fail
    refine (Hp.out _).mono ?_
    rintro e w1 ⟨g, cap, o, ok, rfl, ho, hl, hb, rfl⟩
    go_wp2_with fail
    go_ret3
    exact ⟨rfl, hb⟩
  | some r =>
    have hst := hst r rfl
    obtain ⟨rv, hrv⟩ : ∃ rv, edgesV (some r) = rv := ⟨_, rfl⟩
    rw [hrv]
    have Hrv := hide hrv
    clear hrv
    go_enter Tryd.func25, Tryd.ntmps25
    go_wp2_with fail
    refine (Hp.out _).mono ?_
    rintro e w1 ⟨g, cap, o, ok, rfl, ho, hl, hb, rfl, rfl⟩
    have hrun := l12Run_ok _ o w1 (owns_reads ho) hl hst
    have hok := (runB_ok o).2.2.2.2.2.2
    clear ho Hp hst
    go_wp2_with fail
    refine hrun.mono ?_
    rintro e w2 ⟨P, rfl, ⟨gm, cm, ge, ce, hP, _, hoe, _⟩, hb2⟩
    have hb02 := kept_trans hb hb2
    have c5 : w2.cell? ⟨P, 5, none⟩ = some (.slice (some ⟨ge, 0, none⟩) (runB o).edges.length ce) := by rw [Lib.cell_of_heap hP]; rfl
    have hcell : ∀ j, j < (runB o).edges.length * 4 → w2.cell? ⟨ge, j, none⟩ = (edCells (runB o).edges)[j]? := fun j hj => hoe.cellAt j hj
    have hcap : (runB o).edges.length ≤ ce := owns_cap hoe
    have hrv := Hrv.out
    simp only [edgesV] at hrv
    clear Hrv hrun hP hb hb2 hoe
    generalize (runB o).edges = es at *
    have Hrv := hide hrv
    have Hcell := hide hcell
    clear hrv hcell
    go_wp2_with fail
    go_loopw [8, 9] (fun n i wr => ∃ t m : Nat, t ≤ es.length ∧ i = .int .i64 t ∧ n = .int .i64 (diffE (es.take t)).length ∧ wr = w2.drewN m) (fun _ i _ => es.length - (intOf i).toNat)
    case atStart => exact ⟨0, 0, by omega, rfl, rfl, rfl⟩
    case round =>
      obtain ⟨t, m, ht, rfl, rfl, rfl⟩ := hrel
      by_cases hlt : t < es.length
      · have hs := diff_succ es t hlt
        have hds : (diffE (es.take t)).length ≤ t := Nat.le_trans (diff_le _) (by simp; omega)
        obtain ⟨E, hE⟩ : ∃ E, es[t] = E := ⟨_, rfl⟩
        obtain ⟨y0, y1, y2, y3⟩ := edCells_get es t hlt
        have e0 := (Hcell.out (t * 4) (by omega)).trans y0
        have e1 := (Hcell.out (t * 4 + 1) (by omega)).trans y1
        have e2 := (Hcell.out (t * 4 + 2) (by omega)).trans y2
        have e3 := (Hcell.out (t * 4 + 3) (by omega)).trans y3
        rw [hE] at hs e0 e1 e2 e3
        clear y0 y1 y2 y3
        have HE := hide hE
        have Hs := hide hs
        clear hE hs
        obtain ⟨E1, E2, E3, E4⟩ := E
        dsimp only at e0 e1 e2 e3
        generalize hdn : (diffE (es.take t)).length = dn at *
        clear hdn
        go_wp2_with fail
        go_loopw [10, 11] (fun f k W => ∃ j m' : Nat, j ≤ t ∧ k = .int .i64 j ∧ f = .bool (decide ((E1, E2, E3, E4) ∉ es.take j)) ∧ W = w2.drewN m') (fun _ k _ => t - (intOf k).toNat)
        case atStart => exact ⟨0, m, by omega, rfl, by simp, rfl⟩
        case round =>
          obtain ⟨j, m', hj, rfl, rfl, rfl⟩ := hrel
          by_cases hjt : j < t
          · have hjl : j < es.length := by omega
            obtain ⟨F, hF⟩ : ∃ F, es[j] = F := ⟨_, rfl⟩
            obtain ⟨y0, y1, y2, y3⟩ := edCells_get es j hjl
            have d0 := (Hcell.out (j * 4) (by omega)).trans y0
            have d1 := (Hcell.out (j * 4 + 1) (by omega)).trans y1
            have d2 := (Hcell.out (j * 4 + 2) (by omega)).trans y2
            have d3 := (Hcell.out (j * 4 + 3) (by omega)).trans y3
            rw [hF] at d0 d1 d2 d3
            clear y0 y1 y2 y3
            have hnx : decide ((E1, E2, E3, E4) ∉ es.take (j + 1)) = (decide ((E1, E2, E3, E4) ∉ es.take j) && !eqE F (E1, E2, E3, E4)) := by
              rw [List.take_succ_eq_append_getElem hjl, hF, eqE_iff]
              by_cases h1 : (E1, E2, E3, E4) ∈ es.take j <;> by_cases h2 : F = (E1, E2, E3, E4) <;> simp [h1, h2, eq_comm]
            obtain ⟨F1, F2, F3, F4⟩ := F
            dsimp only at d0 d1 d2 d3
            have hq : ∀ W, (binOp .neq 62 (.agg #[.int .i64 F1, .int .i64 F2, .int .i64 F3, .int .i64 F4]) (.agg #[.int .i64 E1, .int .i64 E2, .int .i64 E3, .int .i64 E4])).run Tryd.prog W = .ok (.bool (!eqE (F1, F2, F3, F4) (E1, E2, E3, E4))) W := fun W => neqEd (F1, F2, F3, F4) (E1, E2, E3, E4) W
            have Hnx := hide hnx
            clear hF hnx
            generalize eqE (F1, F2, F3, F4) (E1, E2, E3, E4) = q at *
            have i0 : (0 : Int) ≤ (j : Int) := by omega
            have i1 : (j : Int) < (es.length : Int) := by omega
            have i2 : (0 : Int) ≤ (t : Int) := by omega
            have i3 : (t : Int) < (es.length : Int) := by omega
            have i4 : (j : Int) < (t : Int) := by omega
            generalize decide ((E1, E2, E3, E4) ∉ es.take j) = f at *
            cases f
            · go_wp2_with fail
              go_quiet (fail)
              go_wp2_with fail
              go_roundw
              case rel => exact ⟨j + 1, _, by omega, by go_num, by rw [Hnx.out]; rfl, rfl⟩
              case measure => simp [intOf]; omega
            · go_wp2_with fail
              go_quiet (fail)
              go_wp2_with fail
              go_roundw
              case rel => exact ⟨j + 1, _, by omega, by go_num, by rw [Hnx.out]; rfl, rfl⟩
              case measure => simp [intOf]; omega
          · obtain rfl : j = t := by omega
            have hs := Hs.out
            have hjj : ¬ (j : Int) < (j : Int) := by omega
            by_cases hin : (E1, E2, E3, E4) ∈ es.take j
            · rw [if_pos hin] at hs
              have hf : decide ((E1, E2, E3, E4) ∉ es.take j) = false := by simp [hin]
              rw [hf]
              clear hf
              have Hs2 := hide hs
              clear hs
              go_wp2_with fail
              go_roundw
              case rel => exact ⟨j + 1, _, by omega, by go_num, by rw [Hs2.out]; rfl, rfl⟩
              case measure => simp [intOf]; omega
            · rw [if_neg hin] at hs
              have hf : decide ((E1, E2, E3, E4) ∉ es.take j) = true := by simp [hin]
              rw [hf]
              clear hf
              have Hs2 := hide hs
              clear hs
              go_wp2_with fail
              go_roundw
              case rel => exact ⟨j + 1, _, by omega, by go_num, by rw [Hs2.out]; go_num, rfl⟩
              case measure => simp [intOf]; omega
      · obtain rfl : t = es.length := by omega
        have hjj : ¬ (es.length : Int) < (es.length : Int) := by omega
        rw [List.take_length] at *
        go_wp2_with fail
        go_ret3
        exact ⟨Hrv.out.symm ▸ rfl, kept_trans hb02 (kept_drewN _ _)⟩

end Go.Proofs.YtincimgpgncomaaDoor
