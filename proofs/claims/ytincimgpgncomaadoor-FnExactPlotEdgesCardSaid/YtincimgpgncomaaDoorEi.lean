/-
  PlotEdges, the program's side.
-/
import Derived.Test.YtincimgpgncomaaDoorEg
import Derived.Test.YtincimgpgncomaaDoorDb
namespace Go.Proofs.YtincimgpgncomaaDoor
open Go.RowKit Go.Maps

theorem edgesV_form (r : Option (List UInt8)) : ∃ (a b : Int) (c : Bool), edgesV r = .tuple #[.int .i64 a, .int .i64 b, .bool c] := by
  cases r with
  | none => exact ⟨_, _, _, rfl⟩
  | some o => exact ⟨_, _, _, rfl⟩

/-- What a step does to the edges. -/
theorem step_stay {r : Run} {b : UInt8} (h : moveB r b = none) : (stepR r b).edges = r.edges := by
  unfold moveB at h
  unfold stepR
  by_cases h1 : b = 117
  · simp [h1]
  · by_cases h2 : b = 100
    · simp [h2]
    · by_cases h3 : b = 116
      · simp [h3]
      · simp only [h1, h2, h3, if_false, or_self] at h ⊢
        cases hd : dirB b with
        | none => rfl
        | some d => rw [hd] at h; cases h

theorem step_go {r : Run} {b : UInt8} {m : Int × Int} (h : moveB r b = some m) : (stepR r b).x = r.x + m.1 ∧ (stepR r b).y = r.y + m.2 ∧ (stepR r b).down = r.down ∧
    (stepR r b).edges = (if r.down = true then r.edges ++ [if (stepR r b).x < r.x ∨ (stepR r b).y < r.y then ((stepR r b).x, (stepR r b).y, r.x, r.y) else (r.x, r.y, (stepR r b).x, (stepR r b).y)] else r.edges) := by
  unfold moveB at h
  split at h
  · cases h
  · rename_i hn
    have h1 : b ≠ 117 := fun e => hn (.inl e)
    have h2 : b ≠ 100 := fun e => hn (.inr (.inl e))
    have h3 : b ≠ 116 := fun e => hn (.inr (.inr e))
    cases hd : dirB b with
    | none => rw [hd] at h; cases h
    | some d =>
      rw [hd] at h
      obtain rfl : wayOf r d = m := by simpa using h
      have e : stepR r b = goB r d := by rw [stepR, if_neg h1, if_neg h2, if_neg h3, hd]
      rw [e]
      refine ⟨rfl, rfl, rfl, ?_⟩
      have hw := edge_way r.x r.y ((d + r.turn) % 4)
      unfold goB wayOf
      dsimp only
      rw [hw]

theorem run_small {o : List UInt8} (hl : o.length ≤ 10000) : ∀ e ∈ (runB o).edges, smallE e := by
  have h : ∀ (l : List UInt8) (r : Run) (n : Nat), RunOk n r → n + l.length ≤ 10000 → (∀ e ∈ r.edges, smallE e) → ∀ e ∈ (l.foldl stepR r).edges, smallE e := by
    intro l
    induction l with
    | nil => intro r n _ _ h; exact h
    | cons b l ih =>
      intro r n hok hn hs
      rw [List.length_cons] at hn
      rw [List.foldl_cons]
      have hok2 := step_ok hok b
      refine ih (stepR r b) (n + 1) hok2 (by omega) ?_
      cases hm : moveB r b with
      | none => rw [step_stay hm]; exact hs
      | some m =>
        obtain ⟨_, _, _, he⟩ := step_go hm
        rw [he]
        split
        · intro e hin
          rcases List.mem_append.1 hin with hin | hin
          · exact hs e hin
          · obtain ⟨a1, a2, a3, a4, _⟩ := hok
            obtain ⟨b1, b2, b3, b4, _⟩ := hok2
            simp only [List.mem_singleton] at hin
            subst hin
            split
            · exact ⟨⟨by dsimp only; omega, by dsimp only; omega⟩, ⟨by dsimp only; omega, by dsimp only; omega⟩, ⟨by dsimp only; omega, by dsimp only; omega⟩, by dsimp only; omega, by dsimp only; omega⟩
            · exact ⟨⟨by dsimp only; omega, by dsimp only; omega⟩, ⟨by dsimp only; omega, by dsimp only; omega⟩, ⟨by dsimp only; omega, by dsimp only; omega⟩, by dsimp only; omega, by dsimp only; omega⟩
        · exact hs
  exact h o run0 0 ⟨by simp [run0], by simp [run0], by simp [run0], by simp [run0], by simp [run0], by simp [run0], by simp [run0]⟩ (by omega) (fun e h => by cases h)

set_option maxRecDepth 100000 in
set_option maxHeartbeats 4000000 in
theorem edgesImpl_ok (s : ByteArray) (w : World) : Calls Tryd.prog 26 #[.string s] w fun e w' => e = .returned (edgesV (progB s)) ∧ Below w.heap.size w w' := by
  have hp := fun w => stepsOf_ok s w
  have hst : ∀ o, progB s = some o → ∀ b ∈ o, isStepB b := fun o h b hb => progB_steps h b hb
  have hln : ∀ o, progB s = some o → o.length ≤ 500 := fun o h => progB_len h
  generalize progB s = r at hp hst hln ⊢
  unfold stepsV at hp
  cases r with
  | none =>
    dsimp only at hp
    have Hp := hide hp
    clear hp hst hln
    go_enter Tryd.func26, Tryd.ntmps26
    go_wp2_with fail
    refine (Hp.out _).mono ?_
    rintro e w1 ⟨rfl, hb⟩
    go_wp2_with fail
    go_ret3
    exact ⟨rfl, hb⟩
  | some o =>
    dsimp only at hp
    have Hp := hide hp
    have Hst := hide (hst o rfl)
    replace hln := hln o rfl
    obtain ⟨rs, hrs⟩ : ∃ rs, edgesV (some o) = rs := ⟨_, rfl⟩
    rw [hrs]
    have Hrs := hide hrs
    clear hp hst hrs
    go_enter Tryd.func26, Tryd.ntmps26
    go_wp2_with fail
    refine (Hp.out _).mono ?_
    rintro e w1 ⟨rfl, hb⟩
    have hp1 := pl_new w1
    have hkp := kept_new w1 (.cells #[.int .i64 0, .int .i64 0, .int .i64 0, .bool false] 59)
    have hsp : (w1.alloc (.cells #[.int .i64 0, .int .i64 0, .int .i64 0, .bool false] 59)).heap.size = w1.heap.size + 1 := by simp
    have hkw := kept_trans hb hkp
    have hbs := hb.size
    clear Hp hb
    have hset := set_new (w1.alloc (.cells #[.int .i64 0, .int .i64 0, .int .i64 0, .bool false] 59))
    rw [hsp] at hset
    have hkm := kept_new (w1.alloc (.cells #[.int .i64 0, .int .i64 0, .int .i64 0, .bool false] 59)) (.map #[] 0)
    have hpl2 := pl_kept hp1 hkm
    have hkw2 := kept_trans hkw hkm
    have hsm : ((w1.alloc (.cells #[.int .i64 0, .int .i64 0, .int .i64 0, .bool false] 59)).alloc (.map #[] 0)).heap.size = w1.heap.size + 2 := by simp
    clear hp1 hkp hkw hkm
    obtain ⟨cap, w3, hcv, hkc, hby, hslt⟩ := bytes_made o ((w1.alloc (.cells #[.int .i64 0, .int .i64 0, .int .i64 0, .bool false] 59)).alloc (.map #[] 0))
    have hpl3 := pl_kept hpl2 hkc
    have hset3 := set_grown hset (grown_of_kept hkc none) (by simp)
    have hk3 := kept_trans hkw2 hkc
    rw [hsm] at hby hslt hcv
    clear hpl2 hset hkc hkw2 hsm
    have hmk : ∀ W, (Instr.makeMap 63 none).run Tryd.prog W = .ok (.map (some W.heap.size)) (W.alloc (.map #[] 0)) := fun W => rfl
    go_wp2_with fail
    clear hcv hmk
    generalize hG : w1.heap.size + 2 = G at *
    have hGP : G ≠ w1.heap.size := by omega
    have hGM : G ≠ w1.heap.size + 1 := by omega
    go_loopw [8, 29] (fun v i wr => ∃ t : Nat, t ≤ o.length ∧ i = .int .i64 t ∧ v = .int .i64 (runB (o.take t)).edges.length ∧ PlAt w1.heap.size (runB (o.take t)) wr ∧ SetAt (w1.heap.size + 1) (diffE (runB (o.take t)).edges) wr ∧ BytesIn G o wr ∧ Below w.heap.size w wr) (fun _ i _ => o.length - (intOf i).toNat)
    case atStart => exact ⟨0, by omega, rfl, by simp [runB, run0], hpl3, hset3, hby, hk3⟩
    case round =>
      obtain ⟨t, ht, rfl, rfl, hpl, hset, hbi, hkr⟩ := hrel
      clear hset3 hpl3 hby hk3 hslt
      by_cases hlt : t < o.length
      · have hlt' : (t : Int) < (o.length : Int) := by omega
        have i3 : (0 : Int) ≤ (t : Int) := by omega
        have h1 := hbi t hlt
        have hok := run_taken (o := o) (by omega) t
        have hok2 := run_taken (o := o) (by omega) (t + 1)
        have hsm1 := run_small (o := o.take t) (by rw [List.length_take]; omega)
        have hsm2 := run_small (o := o.take (t + 1)) (by rw [List.length_take]; omega)
        have hPl : w1.heap.size < wr.heap.size := (Array.getElem?_eq_some_iff.1 hpl).1
        have hMl : w1.heap.size + 1 < wr.heap.size := by obtain ⟨_, _, h, _⟩ := hset; exact (Array.getElem?_eq_some_iff.1 h).1
        have a0 : wr.cell? ⟨w1.heap.size, 0, none⟩ = some (.int .i64 (runB (o.take t)).x) := by rw [Lib.cell_of_heap hpl]; rfl
        have a1 : wr.cell? ⟨w1.heap.size, 1, none⟩ = some (.int .i64 (runB (o.take t)).y) := by rw [Lib.cell_of_heap hpl]; rfl
        have hst1 := @step_stay (runB (o.take t)) o[t]
        have hst2 := @step_go (runB (o.take t)) o[t]
        have hdo := fun W hP => do_ok w1.heap.size (runB (o.take t)) o[t] W hP hok (Hst.out _ (List.getElem_mem hlt))
        rw [← run_next hlt] at hdo hst2 hst1
        generalize o[t] = b at h1 hdo hst1 hst2
        have hln2 : (runB (o.take t)).edges.length ≤ 10000 := hok.2.2.2.2.2.2
        obtain ⟨r2, hr2⟩ : ∃ r2, runB (o.take (t + 1)) = r2 := ⟨_, rfl⟩
        rw [hr2] at hdo hst1 hst2 hsm2 hok2
        have Hr2 := hide hr2
        clear hr2
        generalize runB (o.take t) = r1 at *
        obtain ⟨x1, x2, y1, y2, _⟩ := hok
        obtain ⟨x3, x4, y3, y4, _⟩ := hok2
        have hka := kept_new wr (.cells #[.int .i64 r1.x, .int .i64 r1.y] 30)
        have n0 : (wr.alloc (.cells #[.int .i64 r1.x, .int .i64 r1.y] 30)).cell? ⟨wr.heap.size, 0, none⟩ = some (.int .i64 r1.x) := by go_simp
        have n1 : (wr.alloc (.cells #[.int .i64 r1.x, .int .i64 r1.y] 30)).cell? ⟨wr.heap.size, 1, none⟩ = some (.int .i64 r1.y) := by go_simp
        have hdo := hdo _ (pl_kept hpl hka)
        have hseta := set_grown hset (grown_of_kept hka none) (by simp)
        have hbia := bytes_kept hbi hka
        have hkra := kept_trans hkr hka
        clear hpl hset hbi hkr hka
        generalize hwa : wr.alloc (.cells #[.int .i64 r1.x, .int .i64 r1.y] 30) = wa at *
        cases hmv : moveB r1 b with
        | none =>
          have hed : r2.edges = r1.edges := hst1 hmv
          rw [hmv] at hdo
          unfold moveV at hdo
          dsimp only at hdo
          clear hst1 hst2 hmv
          have Hed := hide hed
          clear hed
          have Hsm := hide hsm1
          clear hsm1 hsm2
          go_wp2_with fail
          refine hdo.mono ?_
          rintro e w4 ⟨rfl, hpl4, hg4⟩
          have hbi4 := bytes_grown hbia hg4 hGP
          have hset4 := set_grown hseta hg4 (by simp)
          have hk4 := kept_grown hkra hg4 (fun k hk => by cases hk; omega)
          clear hdo hg4 hseta hkra hbia hwa n0 n1
          have hka := kept_new w4 (.cells #[.int .i64 0, .int .i64 0] 30)
          have hpl5 := pl_kept hpl4 hka
          have hbi5 := bytes_kept hbi4 hka
          have hset5 := set_grown hset4 (grown_of_kept hka none) (by simp)
          have hk5 := kept_trans hk4 hka
          clear hpl4 hbi4 hset4 hk4 hka
          go_wp2_with fail
          go_roundw
          case rel => exact ⟨t + 1, by omega, by go_num, by rw [Hr2.out, Hed.out], by rw [Hr2.out]; exact hpl5, by rw [Hr2.out, Hed.out]; exact hset5, hbi5, hk5⟩
          case measure => simp [intOf]; omega
        | some m =>
          obtain ⟨hx, hy, hdn, hed⟩ := hst2 hmv
          rw [hmv] at hdo
          unfold moveV at hdo
          dsimp only at hdo
          obtain ⟨mx, my⟩ := m
          dsimp only at hdo hx hy
          have Hxy := hide (And.intro hx hy)
          clear hst1 hst2 hmv hx hy
          have Hsm1 := hide hsm1
          have Hsm2 := hide hsm2
          have Hed := hide hed
          clear hsm1 hsm2 hed
          go_wp2_with fail
          refine hdo.mono ?_
          rintro e w4 ⟨rfl, hpl4, hg4⟩
          have hwl : wr.heap.size < wa.heap.size := World.block_lt_of_cell? wa _ n0
          have hbi4 := bytes_grown hbia hg4 hGP
          have hset4 := set_grown hseta hg4 (by simp)
          have hk4 := kept_grown hkra hg4 (fun k hk => by cases hk; omega)
          replace n0 := (World.cell?_of_block (hg4.block wr.heap.size hwl (by simp; omega)) (a := ⟨wr.heap.size, 0, none⟩)).trans n0
          replace n1 := (World.cell?_of_block (hg4.block wr.heap.size hwl (by simp; omega)) (a := ⟨wr.heap.size, 1, none⟩)).trans n1
          clear hdo hg4 hseta hkra hbia hwa
          have hka := kept_new w4 (.cells #[.int .i64 mx, .int .i64 my] 30)
          have hpl5 := pl_kept hpl4 hka
          have hbi5 := bytes_kept hbi4 hka
          have hset5 := set_grown hset4 (grown_of_kept hka none) (by simp)
          have hk5 := kept_trans hk4 hka
          replace n0 := kept_cell hka n0
          replace n1 := kept_cell hka n1
          clear hpl4 hbi4 hset4 hk4 hka
          have p0 : (w4.alloc (.cells #[.int .i64 mx, .int .i64 my] 30)).cell? ⟨w1.heap.size, 0, none⟩ = some (.int .i64 r2.x) := by rw [Lib.cell_of_heap hpl5]; rfl
          have p1 : (w4.alloc (.cells #[.int .i64 mx, .int .i64 my] 30)).cell? ⟨w1.heap.size, 1, none⟩ = some (.int .i64 r2.y) := by rw [Lib.cell_of_heap hpl5]; rfl
          have p3 : (w4.alloc (.cells #[.int .i64 mx, .int .i64 my] 30)).cell? ⟨w1.heap.size, 3, none⟩ = some (.bool r2.down) := by rw [Lib.cell_of_heap hpl5]; rfl
          rw [hdn] at p3
          obtain ⟨dn, hd1⟩ : ∃ dn, r1.down = dn := ⟨_, rfl⟩
          rw [hd1] at p3
          have Hd1 := hide hd1
          clear hd1 hdn
          cases dn with
          | false =>
            have Hed2 : Hid (r2.edges = r1.edges) := by have h := Hed.out; rw [Hd1.out, if_neg (by simp)] at h; exact h
            clear Hed n0 n1 p0 p1
            go_wp2_with fail
            go_roundw
            case rel => exact ⟨t + 1, by omega, by go_num, by rw [Hr2.out, Hed2.out], by rw [Hr2.out]; exact hpl5, by rw [Hr2.out, Hed2.out]; exact hset5, hbi5, hk5⟩
            case measure => simp [intOf]; omega
          | true =>
            have Hed2 : Hid (r2.edges = r1.edges ++ [if r2.x < r1.x ∨ r2.y < r1.y then (r2.x, r2.y, r1.x, r1.y) else (r1.x, r1.y, r2.x, r2.y)]) := by have h := Hed.out; rw [Hd1.out, if_pos rfl] at h; exact h
            clear Hed
            have hrs : wr.heap.size < (w4.alloc (.cells #[.int .i64 mx, .int .i64 my] 30)).heap.size := World.block_lt_of_cell? _ _ n0
            go_wp2_with fail
            generalize w4.alloc (.cells #[.int .i64 mx, .int .i64 my] 30) = w5 at *
            refine wp_region_held (S := fun W => Below w5.heap.size w5 W) (by kernel_rfl) ?_
            change wpAnyH _ _ _ _ _ _ _ _ w5.drew
            refine wpAnyH_take (i := 0) (v := .agg #[.int .i64 r1.x, .int .i64 r1.y]) rfl (by kernel_rfl) (by kernel_rfl) (by kernel_rfl) (fun _ _ _ h => h) (.inl ⟨by kernel_rfl, fun W hW => by (have d0 := kept_cell hW n0; have d1 := kept_cell hW n1; go_simp)⟩) (kept_drew w5) ?_
            refine wpAnyH_take (i := 1) (v := .pointer (some ⟨w1.heap.size, 0, none⟩)) rfl (by kernel_rfl) (by kernel_rfl) (by kernel_rfl) (fun _ _ _ h => h) (.inl ⟨by kernel_rfl, fun _ _ => by go_simp⟩) (kept_drew w5) ?_
            refine wpAnyH_take (i := 2) (v := .pointer (some ⟨w1.heap.size, 0, none⟩)) rfl (by kernel_rfl) (by kernel_rfl) (by kernel_rfl) (fun _ _ _ h => h) (.inl ⟨by kernel_rfl, fun _ _ => by go_simp⟩) (kept_drew w5) ?_
            refine wpAnyH_take (i := 3) (v := .pointer (some ⟨w1.heap.size, 0, none⟩)) rfl (by kernel_rfl) (by kernel_rfl) (by kernel_rfl) (fun _ _ _ h => h) (.inl ⟨by kernel_rfl, fun _ _ => by go_simp⟩) (kept_drew w5) ?_
            refine wpAnyH_take (i := 4) (v := .agg #[.int .i64 r2.x, .int .i64 r2.y]) rfl (by kernel_rfl) (by kernel_rfl) (by kernel_rfl) (fun _ _ _ h => h) (.inl ⟨by kernel_rfl, fun W hW => by (have d0 := kept_cell hW p0; have d1 := kept_cell hW p1; go_simp)⟩) (kept_drew w5) ?_
            refine wpAnyH_take (i := 5) (v := .agg #[.int .i64 r1.x, .int .i64 r1.y, .int .i64 r2.x, .int .i64 r2.y]) rfl (by kernel_rfl) (by kernel_rfl) (by kernel_rfl) (fun _ _ _ h => h) (.inl ⟨by kernel_rfl, fun _ _ => by go_simp⟩) (kept_drew w5) ?_
            refine wpAnyH_all (rs := [6]) (by kernel_rfl) (by simp) (List.forall_mem_cons.2 ⟨?_, List.forall_mem_nil _⟩)
            refine opH_run (v := .pointer (some ⟨w5.heap.size, 0, none⟩)) (w' := (w5.drew.alloc (.cells #[.int .i64 0, .int .i64 0, .int .i64 0, .int .i64 0] 64))) rfl (by kernel_rfl) (by go_simp) ?_
            have hS1 : Below w5.heap.size w5 (w5.drew.alloc (.cells #[.int .i64 0, .int .i64 0, .int .i64 0, .int .i64 0] 64)) := kept_alloc (kept_drew w5) _
            refine ⟨hS1, ?_⟩
            refine wpAnyH_all (rs := [7]) (by kernel_rfl) (by simp) (List.forall_mem_cons.2 ⟨?_, List.forall_mem_nil _⟩)
            refine opH_store (w' := (((((w5.drew.alloc (.cells #[.int .i64 0, .int .i64 0, .int .i64 0, .int .i64 0] 64)).setCell ⟨w5.heap.size, 0, none⟩ (.int .i64 r1.x)).setCell ⟨w5.heap.size, 1, none⟩ (.int .i64 r1.y)).setCell ⟨w5.heap.size, 2, none⟩ (.int .i64 r2.x)).setCell ⟨w5.heap.size, 3, none⟩ (.int .i64 r2.y))) rfl (by kernel_rfl) (by go_simp) ?_
            have hS2 := (kept_set (kept_set (kept_set (kept_set hS1 (p := ⟨w5.heap.size, 0, none⟩) (Nat.le_refl _) (.int .i64 r1.x)) (p := ⟨w5.heap.size, 1, none⟩) (Nat.le_refl _) (.int .i64 r1.y)) (p := ⟨w5.heap.size, 2, none⟩) (Nat.le_refl _) (.int .i64 r2.x)) (p := ⟨w5.heap.size, 3, none⟩) (Nat.le_refl _) (.int .i64 r2.y))
            refine ⟨hS2, ?_⟩
            refine wpAnyH_done (by kernel_rfl) ?_ _
            go_simp
            have hka : Below w5.heap.size w5 (w5.alloc (.cells #[.int .i64 r1.x, .int .i64 r1.y, .int .i64 r2.x, .int .i64 r2.y] 64)).drew := (kept_new w5 (.cells #[.int .i64 r1.x, .int .i64 r1.y, .int .i64 r2.x, .int .i64 r2.y] 64)).drew
            have hsz : ((w5.alloc (.cells #[.int .i64 r1.x, .int .i64 r1.y, .int .i64 r2.x, .int .i64 r2.y] 64)).drew).heap.size = w5.heap.size + 1 := by simp
            have q0 : ((w5.alloc (.cells #[.int .i64 r1.x, .int .i64 r1.y, .int .i64 r2.x, .int .i64 r2.y] 64)).drew).cell? ⟨w5.heap.size, 0, none⟩ = some (.int .i64 r1.x) := by go_simp
            have q1 : ((w5.alloc (.cells #[.int .i64 r1.x, .int .i64 r1.y, .int .i64 r2.x, .int .i64 r2.y] 64)).drew).cell? ⟨w5.heap.size, 1, none⟩ = some (.int .i64 r1.y) := by go_simp
            have q2 : ((w5.alloc (.cells #[.int .i64 r1.x, .int .i64 r1.y, .int .i64 r2.x, .int .i64 r2.y] 64)).drew).cell? ⟨w5.heap.size, 2, none⟩ = some (.int .i64 r2.x) := by go_simp
            have q3 : ((w5.alloc (.cells #[.int .i64 r1.x, .int .i64 r1.y, .int .i64 r2.x, .int .i64 r2.y] 64)).drew).cell? ⟨w5.heap.size, 3, none⟩ = some (.int .i64 r2.y) := by go_simp
            have f0 : ((w5.alloc (.cells #[.int .i64 r1.x, .int .i64 r1.y, .int .i64 r2.x, .int .i64 r2.y] 64)).drew).frozen? ⟨w5.heap.size, 0, none⟩ = false := by go_simp
            have f1 : ((w5.alloc (.cells #[.int .i64 r1.x, .int .i64 r1.y, .int .i64 r2.x, .int .i64 r2.y] 64)).drew).frozen? ⟨w5.heap.size, 1, none⟩ = false := by go_simp
            have f2 : ((w5.alloc (.cells #[.int .i64 r1.x, .int .i64 r1.y, .int .i64 r2.x, .int .i64 r2.y] 64)).drew).frozen? ⟨w5.heap.size, 2, none⟩ = false := by go_simp
            have f3 : ((w5.alloc (.cells #[.int .i64 r1.x, .int .i64 r1.y, .int .i64 r2.x, .int .i64 r2.y] 64)).drew).frozen? ⟨w5.heap.size, 3, none⟩ = false := by go_simp
            replace n0 := kept_cell hka n0
            replace n1 := kept_cell hka n1
            replace p0 := kept_cell hka p0
            replace p1 := kept_cell hka p1
            have hpl6 := pl_kept hpl5 hka
            have hbi6 := bytes_kept hbi5 hka
            have hset6 := set_grown hset5 (grown_of_kept hka none) (by simp)
            have hk6 := kept_trans hk5 hka
            have hm6 : w1.heap.size + 1 ≠ w5.heap.size := by omega
            have hb6 : w.heap.size ≤ w5.heap.size := hk5.size
            clear hpl5 hbi5 hset5 hk5 p3 hka hS1 hS2
            generalize (w5.alloc (.cells #[.int .i64 r1.x, .int .i64 r1.y, .int .i64 r2.x, .int .i64 r2.y] 64)).drew = w6 at *
            generalize w5.heap.size = e6 at *
            have hsm : smallE (r1.x, r1.y, r2.x, r2.y) ∧ smallE (r2.x, r2.y, r1.x, r1.y) := ⟨⟨⟨by dsimp only; omega, by dsimp only; omega⟩, ⟨by dsimp only; omega, by dsimp only; omega⟩, ⟨by dsimp only; omega, by dsimp only; omega⟩, by dsimp only; omega, by dsimp only; omega⟩, ⟨by dsimp only; omega, by dsimp only; omega⟩, ⟨by dsimp only; omega, by dsimp only; omega⟩, ⟨by dsimp only; omega, by dsimp only; omega⟩, by dsimp only; omega, by dsimp only; omega⟩
            have Hsm := hide hsm
            clear hsm
            have Hsd : Hid (∀ x ∈ diffE r1.edges, smallE x) := fun x hx => Hsm1.out x ((mem_diffE _ _).1 hx)
            by_cases hsw : r2.x < r1.x ∨ r2.y < r1.y
            · have Hed3 : Hid (r2.edges = r1.edges ++ [(r2.x, r2.y, r1.x, r1.y)]) := by have h := Hed2.out; rw [if_pos hsw] at h; exact h
              by_cases hx : r2.x < r1.x
              all_goals
                go_wp2_with fail
                go_quiet (fail)
                have hkd := kept_drewN w6 nq
                replace n0 := kept_cell hkd n0
                replace n1 := kept_cell hkd n1
                replace p0 := kept_cell hkd p0
                replace p1 := kept_cell hkd p1
                replace q0 := kept_cell hkd q0
                replace q1 := kept_cell hkd q1
                replace q2 := kept_cell hkd q2
                replace q3 := kept_cell hkd q3
                have hel : e6 < w6.heap.size := by omega
                replace f0 := (hkd.frozen (p := ⟨e6, 0, none⟩) hel).trans f0
                replace f1 := (hkd.frozen (p := ⟨e6, 1, none⟩) hel).trans f1
                replace f2 := (hkd.frozen (p := ⟨e6, 2, none⟩) hel).trans f2
                replace f3 := (hkd.frozen (p := ⟨e6, 3, none⟩) hel).trans f3
                have hpl7 := pl_kept hpl6 hkd
                have hbi7 := bytes_kept hbi6 hkd
                have hset7 := set_grown hset6 (grown_of_kept hkd none) (by simp)
                have hk7 := kept_trans hk6 hkd
                have hsz7 : (w6.drewN nq).heap.size = e6 + 1 := hsz
                clear hpl6 hbi6 hset6 hk6 hkd hel hsz
                generalize w6.drewN nq = w7 at *
                go_wp2_with fail
                have hgs : w7.grownBy (((((w7.setCell ⟨e6, 0, none⟩ (.int .i64 r2.x)).setCell ⟨e6, 1, none⟩ (.int .i64 r2.y)).setCell ⟨e6, 2, none⟩ (.int .i64 r1.x)).setCell ⟨e6, 3, none⟩ (.int .i64 r1.y)).drew) (some e6) := grown_trans' (grown_trans' (grown_trans' (grown_trans' (grown_set _ e6 0 _) (grown_set _ e6 1 _)) (grown_set _ e6 2 _)) (grown_set _ e6 3 _)) (grown_of_kept (kept_drew _) _)
                obtain ⟨w8, hst8, hset8, hg8⟩ := set_store (w := ((((w7.setCell ⟨e6, 0, none⟩ (.int .i64 r2.x)).setCell ⟨e6, 1, none⟩ (.int .i64 r2.y)).setCell ⟨e6, 2, none⟩ (.int .i64 r1.x)).setCell ⟨e6, 3, none⟩ (.int .i64 r1.y)).drew) (set_grown hset7 hgs (by simpa using hm6)) Hsd.out Hsm.out.2 (.bool true)
                simp only [edK] at hst8
                have hPl7 := (Array.getElem?_eq_some_iff.1 hpl7).1
                have hpl8 := (hg8.block w1.heap.size (Nat.lt_of_lt_of_le hPl7 hgs.size) (by simp)).trans ((hgs.block w1.heap.size hPl7 (by simp; omega)).trans hpl7)
                have hbi8 := bytes_grown (bytes_grown hbi7 hgs (by omega)) hg8 hGM
                have hk8 := kept_grown (kept_grown hk7 hgs (fun k hk => by cases hk; omega)) hg8 (fun k hk => by cases hk; omega)
                clear hpl7 hbi7 hset7 hk7 hg8 hgs
                go_still_tail 6, (by kernel_rfl)
                clear n0 n1 p0 p1
                go_wp2_with fail
                go_roundw
                case rel => exact ⟨t + 1, by omega, by go_num, by rw [Hr2.out, Hed3.out]; simp, by rw [Hr2.out]; exact hpl8, by rw [Hr2.out, Hed3.out, diffE_snoc]; exact hset8, hbi8, hk8⟩
                case measure => simp [intOf]; omega
            · have Hed3 : Hid (r2.edges = r1.edges ++ [(r1.x, r1.y, r2.x, r2.y)]) := by have h := Hed2.out; rw [if_neg hsw] at h; exact h
              have hx : ¬ r2.x < r1.x := fun h => hsw (.inl h)
              have hy : ¬ r2.y < r1.y := fun h => hsw (.inr h)
              go_wp2_with fail
              go_quiet (fail)
              have hkd := kept_drewN w6 nq
              replace n0 := kept_cell hkd n0
              replace n1 := kept_cell hkd n1
              replace p0 := kept_cell hkd p0
              replace p1 := kept_cell hkd p1
              replace q0 := kept_cell hkd q0
              replace q1 := kept_cell hkd q1
              replace q2 := kept_cell hkd q2
              replace q3 := kept_cell hkd q3
              have hel : e6 < w6.heap.size := by omega
              replace f0 := (hkd.frozen (p := ⟨e6, 0, none⟩) hel).trans f0
              replace f1 := (hkd.frozen (p := ⟨e6, 1, none⟩) hel).trans f1
              replace f2 := (hkd.frozen (p := ⟨e6, 2, none⟩) hel).trans f2
              replace f3 := (hkd.frozen (p := ⟨e6, 3, none⟩) hel).trans f3
              have hpl7 := pl_kept hpl6 hkd
              have hbi7 := bytes_kept hbi6 hkd
              have hset7 := set_grown hset6 (grown_of_kept hkd none) (by simp)
              have hk7 := kept_trans hk6 hkd
              have hsz7 : (w6.drewN nq).heap.size = e6 + 1 := hsz
              clear hpl6 hbi6 hset6 hk6 hkd hel hsz
              generalize w6.drewN nq = w7 at *
              obtain ⟨w8, hst8, hset8, hg8⟩ := set_store hset7 Hsd.out Hsm.out.1 (.bool true)
              simp only [edK] at hst8
              have hpl8 := (hg8.block w1.heap.size (Array.getElem?_eq_some_iff.1 hpl7).1 (by simp)).trans hpl7
              have hbi8 := bytes_grown hbi7 hg8 hGM
              have hk8 := kept_grown hk7 hg8 (fun k hk => by cases hk; omega)
              clear hpl7 hbi7 hset7 hk7 hg8
              go_wp2_with fail
              go_roundw
              case rel => exact ⟨t + 1, by omega, by go_num, by rw [Hr2.out, Hed3.out]; simp, by rw [Hr2.out]; exact hpl8, by rw [Hr2.out, Hed3.out, diffE_snoc]; exact hset8, hbi8, hk8⟩
              case measure => simp [intOf]; omega

      · obtain rfl : t = o.length := by omega
        have h1' : ¬ (o.length : Int) < (o.length : Int) := by omega
        rw [List.take_length] at *
        have hlen := fun ty => set_len hset ty
        have hrs := Hrs.out
        simp only [edgesV] at hrs
        clear hpl hset hbi Hrs
        generalize (runB o).edges = es at *
        have Hrs := hide hrs
        clear hrs
        go_wp2_with fail
        go_ret3
        exact ⟨Hrs.out.symm ▸ rfl, hkr⟩
end Go.Proofs.YtincimgpgncomaaDoor
