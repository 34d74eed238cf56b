/-
  PlotMoves, both sides.
-/
import Derived.Test.YtincimgpgncomaaDoorPn
import Derived.Test.YtincimgpgncomaaDoorDb
import Derived.Test.YtincimgpgncomaaDoorFl
namespace Go.Proofs.YtincimgpgncomaaDoor
open Go.RowKit

/-- The moves of a program, if it makes at most 100. -/
def movesRes (r : Option (List UInt8)) : List (Int × Int) × Bool := match r with
  | none => ([], false)
  | some o => if 100 < (runB o).moves.length then ([], false) else ((runB o).moves, true)

theorem movesRes_len (r : Option (List UInt8)) : (movesRes r).1.length ≤ 100 := by
  unfold movesRes
  split
  · simp
  · split
    · simp
    · dsimp only; omega

def MvPost (r : List (Int × Int) × Bool) (w : World) (e : Ending) (w' : World) : Prop :=
  ∃ v, e = .returned (.tuple #[v, .bool r.2]) ∧ Has w' w.heap.size 2 v r.1.length (mvCells r.1) ∧ Below w.heap.size w w'

/-- .. and the slice has room for what it holds. -/
def MvPostC (r : List (Int × Int) × Bool) (w : World) (e : Ending) (w' : World) : Prop :=
  ∃ v, e = .returned (.tuple #[v, .bool r.2]) ∧ Has w' w.heap.size 2 v r.1.length (mvCells r.1) ∧ Below w.heap.size w w' ∧ ∃ A n c, v = .slice A n c ∧ n ≤ c

theorem owns_cap {w : World} {B : Nat} {e : TypeId} {size g n cap : Nat} {xs : List Value} (h : w.ownsRow B e size (.slice (some ⟨g, 0, none⟩) n cap) n xs) : n ≤ cap := by
  rcases h.2 with ⟨h', _⟩ | ⟨g', cap', cur, h', _, _, h3, _⟩
  · simp at h'
  · simp only [Value.slice.injEq, Option.some.injEq, Addr.mk.injEq, and_true, true_and] at h'
    omega

theorem moves_more (o : List UInt8) (t : Nat) : (runB (o.take t)).moves.length ≤ (runB o).moves.length := by
  have h : ∀ (l : List UInt8) (r : Run), r.moves.length ≤ (l.foldl stepR r).moves.length := by
    intro l
    induction l with
    | nil => intro r; exact Nat.le_refl _
    | cons b l ih =>
      intro r
      rw [List.foldl_cons]
      refine Nat.le_trans ?_ (ih _)
      rw [step_moves]
      simp
  have e : runB o = (o.drop t).foldl stepR (runB (o.take t)) := by
    rw [runB, runB, ← List.foldl_append, List.take_append_drop]
  rw [e]
  exact h _ _

theorem mvCells_one (ms : List (Int × Int)) : ∀ u ∈ mvCells ms, u.oneCell' = true := by
  intro u hu
  simp only [mvCells, List.mem_flatMap] at hu
  obtain ⟨m, _, hu⟩ := hu
  simp only [List.mem_cons, List.not_mem_nil, or_false] at hu
  rcases hu with rfl | rfl <;> rfl

theorem has_none (w : World) (B : Nat) : Has w B 2 (.slice none 0 0) 0 (mvCells []) := ⟨rfl, by decide, .inl ⟨rfl, rfl⟩⟩

set_option maxRecDepth 100000 in
set_option maxHeartbeats 4000000 in
theorem movesSpec_ok (s : ByteArray) (w : World) : Calls Tryd.prog 28 #[.string s] w (MvPost (movesRes (progB s)) w) := by
  have hp := fun w => l12Program_ok s w
  have hst : ∀ o, progB s = some o → ∀ b ∈ o, isStepB b := fun o h b hb => progB_steps h b hb
  generalize progB s = r at hp hst ⊢
  unfold ProgPost at hp
  have Hp := hide hp
  clear hp
  cases r with
  | none =>
    clear hst
    have hres : movesRes none = ([], false) := rfl
    rw [hres]
    go_enter Tryd.func28, Tryd.ntmps28
    go_wp2_with fail
    refine (Hp.out _).mono ?_
    rintro e w1 ⟨g, cap, o, ok, rfl, ho, hl, hb, rfl⟩
    have ho2 := World.ownsRow_lit (base := w.heap.size) (e := 30) (size := 2) w1 #[] 0 hb.size (by decide) (by simp)
    have hb2 := kept_alloc hb (.cells #[] 30)
    clear ho
    go_wp2_with fail
    go_ret2
    exact ⟨_, rfl, has_owns ho2, hb2⟩
  | some r =>
    have hst := hst r rfl
    obtain ⟨rs, hrs⟩ : ∃ rs, movesRes (some r) = rs := ⟨_, rfl⟩
    rw [hrs]
    have Hrs := hide hrs
    clear hrs
    go_enter Tryd.func28, Tryd.ntmps28
    go_wp2_with fail
    refine (Hp.out _).mono ?_
    rintro e w1 ⟨g, cap, o, ok, rfl, ho, hl, hb, rfl, rfl⟩
    have hrun := l12Run_ok _ o w1 (owns_reads ho) hl hst
    clear ho Hp hst
    go_wp2_with fail
    refine hrun.mono ?_
    rintro e w2 ⟨P, rfl, ⟨gm, cm, ge, ce, hP, hom, _⟩, hb2⟩
    have hb02 := kept_trans hb hb2
    have c4 : w2.cell? ⟨P, 4, none⟩ = some (.slice (some ⟨gm, 0, none⟩) (runB o).moves.length cm) := by rw [Lib.cell_of_heap hP]; rfl
    have hom := owns_base hom hb.size
    clear hrun hP hb hb2
    by_cases h1 : 100 < (runB o).moves.length
    · have h1' : ((runB o).moves.length : Int) > 100 := by omega
      have hr := Hrs.out
      simp only [movesRes, if_pos h1] at hr
      subst hr
      have ho2 := World.ownsRow_lit (base := w.heap.size) (e := 30) (size := 2) w2 #[] 0 hb02.size (by decide) (by simp)
      have hb3 := kept_alloc hb02 (.cells #[] 30)
      clear hom
      go_wp2_with fail
      go_ret2
      exact ⟨_, rfl, has_owns ho2, hb3⟩
    · have h1' : ¬ ((runB o).moves.length : Int) > 100 := by omega
      have hr := Hrs.out
      simp only [movesRes, if_neg h1] at hr
      subst hr
      go_wp2_with fail
      go_ret2
      exact ⟨_, rfl, has_owns hom, hb02⟩

set_option maxRecDepth 100000 in
set_option maxHeartbeats 4000000 in
theorem movesImplC_ok (s : ByteArray) (w : World) : Calls Tryd.prog 29 #[.string s] w (MvPostC (movesRes (progB s)) w) := by
  obtain ⟨i0, hi, hz0, hz1, hz2⟩ := info_parts Tryd.infoMv
  have hp := fun w => stepsOf_ok s w
  have hst : ∀ o, progB s = some o → ∀ b ∈ o, isStepB b := fun o h b hb => progB_steps h b hb
  have hln : ∀ o, progB s = some o → o.length ≤ 500 := fun o h => progB_len h
  generalize progB s = r at hp hst hln ⊢
  unfold stepsV at hp
  cases r with
  | none =>
    dsimp only at hp
    have Hp := hide hp
    clear hp hst hln
    have hres : movesRes none = ([], false) := rfl
    rw [hres]
    go_enter Tryd.func29, Tryd.ntmps29
    go_wp2_with fail
    refine (Hp.out _).mono ?_
    rintro e w1 ⟨rfl, hb⟩
    go_wp2_with fail
    go_ret2
    exact ⟨_, rfl, has_none _ _, hb, _, _, _, rfl, Nat.le_refl _⟩
  | some o =>
    dsimp only at hp
    have Hp := hide hp
    have Hst := hide (hst o rfl)
    have hln := hln o rfl
    obtain ⟨rs, hrs⟩ : ∃ rs, movesRes (some o) = rs := ⟨_, rfl⟩
    rw [hrs]
    have Hrs := hide hrs
    clear hp hst hrs
    go_enter Tryd.func29, Tryd.ntmps29
    go_wp2_with fail
    refine (Hp.out _).mono ?_
    rintro e w1 ⟨rfl, hb⟩
    have hp1 := pl_new w1
    have hkp := kept_new w1 (.cells #[.int .i64 0, .int .i64 0, .int .i64 0, .bool false] 59)
    have hsp : (w1.alloc (.cells #[.int .i64 0, .int .i64 0, .int .i64 0, .bool false] 59)).heap.size = w1.heap.size + 1 := by simp
    have hkw := kept_trans hb hkp
    have hbs := hb.size
    clear Hp hb
    go_wp2_with (at_make; refine wpList_make_own _ rfl _ _ 36 rfl w.heap.size 30 i0 _ 2 Tryd.underlying36 hi hz0 hz1 _ _ _ 100 rfl rfl rfl (by rw [hz2]; omega) (by decide) hkw.size ?_)
    intro w2 hout hgr
    have hk2 := kept_trans hkw (kept_of_grown hgr)
    have hpl2 := pl_kept hp1 (kept_of_grown hgr)
    have hol : w1.heap.size + 1 < w2.heap.size := (hout.lt _ rfl).2
    obtain ⟨cap, w3, hcv, hkc, hby, hslt⟩ := bytes_made o w2
    have hpl3 := pl_kept hpl2 hkc
    have hout3 := owns_kept hout hkc
    have hk3 := kept_trans hk2 hkc
    generalize w2.heap.size = G at *
    clear hgr hp1 hkp hkw hpl2 hout hk2 hkc
    go_wp2_with fail
    clear hcv
    go_loopw [7, 25] (fun v i wr => ∃ t : Nat, t ≤ o.length ∧ i = .int .i64 t ∧ v = .slice (some ⟨w1.heap.size + 1, 0, none⟩) (runB (o.take t)).moves.length 100 ∧ (runB (o.take t)).moves.length ≤ 100 ∧
      wr.ownsRow w.heap.size 30 2 (.slice (some ⟨w1.heap.size + 1, 0, none⟩) (runB (o.take t)).moves.length 100) (runB (o.take t)).moves.length (mvCells (runB (o.take t)).moves) ∧ PlAt w1.heap.size (runB (o.take t)) wr ∧ BytesIn G o wr ∧ Below w.heap.size w wr) (fun _ i _ => o.length - (intOf i).toNat)
    case atStart => exact ⟨0, by omega, rfl, rfl, by simp [runB, run0], hout3, hpl3, hby, hk3⟩
    case round =>
      obtain ⟨t, ht, rfl, rfl, hn, ho, hpl, hbi, hkr⟩ := hrel
      clear hout3 hpl3 hby hk3
      by_cases hlt : t < o.length
      · have hlt' : (t : Int) < (o.length : Int) := by omega
        have i3 : (0 : Int) ≤ (t : Int) := by omega
        have h1 := hbi t hlt
        have hdo := do_ok w1.heap.size (runB (o.take t)) o[t] wr hpl (run_taken (by omega) t) (Hst.out _ (List.getElem_mem hlt))
        have hms := step_moves (runB (o.take t)) o[t]
        have hmore := moves_more o (t + 1)
        rw [← run_next hlt] at hdo hms
        have Hbi := hide hbi
        clear hpl hbi
        generalize o[t] = b at h1 hdo hms
        obtain ⟨r2, hr2⟩ : ∃ r2, runB (o.take (t + 1)) = r2 := ⟨_, rfl⟩
        rw [hr2] at hdo hms hmore
        have Hr2 := hide hr2
        clear hr2
        generalize runB (o.take t) = r1 at *
        cases hmv : moveB r1 b with
        | none =>
          rw [hmv] at hdo hms
          unfold moveV at hdo
          dsimp only at hdo
          have hms : r2.moves = r1.moves := by simpa using hms
          clear hmore hmv
          go_wp2_with fail
          refine hdo.mono ?_
          rintro e w4 ⟨rfl, hpl4, hg4⟩
          have hbi4 := bytes_grown Hbi.out hg4 (by omega)
          have ho4 := slice_other ho hg4 (by omega)
          have hk4 := kept_grown hkr hg4 (fun k hk => by cases hk; omega)
          clear hdo hg4 ho hkr Hbi
          have hka := kept_new w4 (.cells #[.int .i64 0, .int .i64 0] 30)
          have hpl5 := pl_kept hpl4 hka
          have hbi5 := bytes_kept hbi4 hka
          have ho5 := owns_kept ho4 hka
          have hk5 := kept_trans hk4 hka
          clear hpl4 hbi4 ho4 hk4 hka
          go_wp2_with fail
          go_roundw
          case rel => exact ⟨t + 1, by omega, by go_num, by rw [Hr2.out, ← hms], by rw [Hr2.out, hms]; exact hn, by rw [Hr2.out, hms]; exact ho5, by rw [Hr2.out]; exact hpl5, hbi5, hk5⟩
          case measure => simp [intOf]; omega
        | some m =>
          rw [hmv] at hdo hms
          unfold moveV at hdo
          dsimp only at hdo
          obtain ⟨mx, my⟩ := m
          dsimp only at hdo
          have hms : r2.moves = r1.moves ++ [(mx, my)] := by simpa using hms
          have hlen : r2.moves.length = r1.moves.length + 1 := by rw [hms]; simp
          clear hmv
          go_wp2_with fail
          refine hdo.mono ?_
          rintro e w4 ⟨rfl, hpl4, hg4⟩
          have hbi4 := bytes_grown Hbi.out hg4 (by omega)
          have ho4 := slice_other ho hg4 (by omega)
          have hk4 := kept_grown hkr hg4 (fun k hk => by cases hk; omega)
          clear hdo hg4 ho hkr Hbi
          have hka := kept_new w4 (.cells #[.int .i64 mx, .int .i64 my] 30)
          have n0 : (w4.alloc (.cells #[.int .i64 mx, .int .i64 my] 30)).cell? ⟨w4.heap.size, 0, none⟩ = some (.int .i64 mx) := by go_simp
          have n1 : (w4.alloc (.cells #[.int .i64 mx, .int .i64 my] 30)).cell? ⟨w4.heap.size, 1, none⟩ = some (.int .i64 my) := by go_simp
          have hpl5 := pl_kept hpl4 hka
          have hbi5 := bytes_kept hbi4 hka
          have ho5 := owns_kept ho4 hka
          have hk5 := kept_trans hk4 hka
          clear hpl4 hbi4 ho4 hk4 hka
          by_cases hfull : r1.moves.length = 100
          · have hf' : (r1.moves.length : Int) = 100 := by omega
            have hr := Hrs.out
            simp only [movesRes] at hr
            rw [if_pos (by omega)] at hr
            subst hr
            clear hms hlen
            rw [hfull] at *
            go_wp2_with fail
            go_ret2
            exact ⟨_, rfl, has_none _ _, hk5, _, _, _, rfl, Nat.le_refl _⟩
          · have hf' : ¬ (r1.moves.length : Int) = 100 := by omega
            have hfb : ((r1.moves.length : Int) == 100) = false := beq_eq_false_iff_ne.2 hf'
            generalize hw5 : w4.alloc (.cells #[.int .i64 mx, .int .i64 my] 30) = w5 at *
            have Hms := hide hms
            have Hlen := hide hlen
            clear hms hlen hmore
            go_wp2_with (at_builtin; go_loud (refine wpList_append_fits _ rfl _ _ 36 rfl w.heap.size 30 i0 2 Tryd.underlying36 hi hz1 (w1.heap.size + 1) r1.moves.length 100 (mvCells r1.moves) rfl (ho5.alloc _) ⟨w5.heap.size, 0, none⟩ 1 1 [.int .i64 mx, .int .i64 my] rfl rfl (fun j u hu => news_new w5 #[.int .i64 mx, .int .i64 my] 30 j u hu) (by simp [Value.oneCell']) (by omega) ?_))
            intro w6 ho6 hg6
            have hka := kept_new w5 (.cells #[.int .i64 mx, .int .i64 my] 30)
            have hpl6 := (hg6.block w1.heap.size (by have := (Array.getElem?_eq_some_iff.1 (pl_kept hpl5 hka)).1; exact this) (by simp)).trans (pl_kept hpl5 hka)
            have hbi6 := bytes_grown (bytes_kept hbi5 hka) hg6 (by omega)
            have hk6 := kept_grown (kept_trans hk5 hka) hg6 (fun k hk => by cases hk; omega)
            clear hka hg6 hpl5 hbi5 ho5 hk5 n0 n1
            go_wp2_with fail
            go_roundw
            case rel => exact ⟨t + 1, by omega, by go_num, by rw [Hr2.out, Hlen.out], by rw [Hr2.out, Hlen.out]; omega, by rw [Hr2.out, Hlen.out, Hms.out, mvCells_snoc]; exact ho6, by rw [Hr2.out]; exact hpl6, hbi6, hk6⟩
            case measure => simp [intOf]; omega
      · obtain rfl : t = o.length := by omega
        have h1' : ¬ (o.length : Int) < (o.length : Int) := by omega
        rw [List.take_length] at *
        have hr := Hrs.out
        simp only [movesRes] at hr
        rw [if_neg (by omega)] at hr
        subst hr
        clear hpl hbi
        generalize (runB o).moves = ms at *
        have hoe := World.ownsRow_lit (base := w.heap.size) (e := 30) (size := 2) wr #[] 0 hkr.size (by decide) (by simp)
        have hoa := owns_kept ho (kept_new wr (.cells #[] 30))
        have hka := kept_alloc hkr (.cells #[] 30)
        have hml := mvCells_len ms
        clear ho
        go_wp2_with (at_builtin; go_loud (refine wpList_append_any rfl _ _ 36 rfl w.heap.size 30 i0 _ 2 16 Tryd.underlying36 hi hz0 hz1 hz2 rfl (by decide) wr.heap.size 0 0 [] rfl hoe ⟨w1.heap.size + 1, 0, none⟩ ms.length 100 (mvCells ms) rfl hml (fun j u hu => hoa.cells rfl j u hu) (mvCells_one ms) (by omega) (by decide) hka.size ms.length (by omega) (mvCells ms) (List.nil_append _) ?_))
        intro g6 cap6 w6 ho6 hg6 _ hb6
        have hk6 := kept_grown hka hg6 (fun k hk => by cases hk; exact hkr.size)
        clear hg6 hoe hoa
        go_wp2_with fail
        go_ret2
        exact ⟨_, rfl, has_owns ho6, hk6, _, _, _, rfl, owns_cap ho6⟩

theorem movesImpl_ok (s : ByteArray) (w : World) : Calls Tryd.prog 29 #[.string s] w (MvPost (movesRes (progB s)) w) :=
  (movesImplC_ok s w).mono fun _ _ ⟨v, h1, h2, h3, _⟩ => ⟨v, h1, h2, h3⟩

end Go.Proofs.YtincimgpgncomaaDoor
