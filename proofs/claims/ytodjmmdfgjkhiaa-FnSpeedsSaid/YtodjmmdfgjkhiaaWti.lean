/-
  The program's tidy design.
-/
import Derived.Test.YtodjmmdfgjkhiaaWd
import Derived.Test.YtodjmmdfgjkhiaaWso
namespace Go.Proofs.Ytodjmmdfgjkhiaa
open Go.RowKit
attribute [local go_sem ↓] Go.wp_at_zero Go.wp_at_succ

theorem owns_radS {W : World} {base g cap : Nat} {e : TypeId} {ws : List W9} (h : W.ownsRow base e 9 (.slice (some ⟨g, 0, none⟩) ws.length cap) ws.length (wlCells ws)) (t : Nat) (x : W9) (ht : ws[t]? = some x) (c : C8) :
    (setRad W g t c).ownsRow base e 9 (.slice (some ⟨g, 0, none⟩) ws.length cap) ws.length (wlCells (ws.set t ⟨x.s, c⟩)) := by
  obtain ⟨hl, rfl⟩ := List.getElem?_eq_some_iff.1 ht
  exact owns_rad h t hl c

theorem has_nil (w : World) (B size : Nat) : Has w B size (.slice none 0 0) 0 [] := ⟨by simp, by omega, .inl ⟨rfl, rfl⟩⟩

theorem putW_small {ws : List W9} {x : W9} (hs : ∀ y ∈ ws, y.c.smallB 1000000 = true) (hx : x.c.smallB 1000000 = true) (hr : (radW ws x).smallB 1000000 = true) : ∀ y ∈ putW ws x, y.c.smallB 1000000 = true := by
  induction ws with
  | nil => intro y hy; simp [putW] at hy; rw [hy]; exact hx
  | cons z zs ih =>
    intro y hy
    unfold putW at hy
    unfold radW at hr
    split at hy
    · rename_i he
      rw [if_pos he] at hr
      rcases List.mem_cons.1 hy with rfl | h
      · exact hr
      · exact hs y (by simp [h])
    · rename_i he
      rw [if_neg he] at hr
      rcases List.mem_cons.1 hy with rfl | h
      · exact hs y (by simp)
      · exact ih (fun y h => hs y (by simp [h])) hr y h

theorem putW_len (ws : List W9) (x : W9) : (putW ws x).length ≤ ws.length + 1 := by
  induction ws with
  | nil => simp [putW]
  | cons y ys ih =>
    unfold putW
    split
    · simp
    · simpa using ih

set_option maxRecDepth 100000 in
set_option maxHeartbeats 8000000 in
theorem tidied_ok (v : Value) (ws : List W9) (w : World) (hr : Reads w 9 v ws.length (wlCells ws)) (hl : ws.length ≤ 50) (hsm : ∀ y ∈ ws, y.c.smallB 1000000 = true) :
    Calls Try.prog 53 #[v] w (WlPost (tidyRes ws) w) := by
  obtain ⟨i0, hi, hz0, hz1, hz2⟩ := info_parts Try.infoW
  have hmf : ∀ (fn : Fn) (first cap : Array Value) (w : World), (Instr.makeFunc fn first cap).run Try.prog w = .ok (.func fn first cap) w := fun _ _ _ _ => rfl
  have eg1 : ∀ args w, (callFunc 69 args).run Try.prog w = .ok (.enter 69 args) w := enters_of Try.func69 (by kernel_rfl) rfl
  have Eg1 := hide eg1
  clear eg1
  obtain ⟨_, hm, A, c, rfl, hc⟩ := hr
  have Ho0 := hide (owns_empty w 49 9 w.heap.size (Nat.le_refl _))
  have Hb0 : Hid (Below w.heap.size w (w.alloc (.cells #[] 49))) := kept_new _ _
  have Hsm := hide hsm
  clear hsm
  go_enter Try.func53, Try.ntmps53
  go_wp2_with fail
  go_loopw [4, 6, 7, 11] (fun v _ _ i wr => ∃ (t g cap : Nat) (acc : List W9), t ≤ ws.length ∧ i = .int .i64 t ∧ v = .slice (some ⟨g, 0, none⟩) acc.length cap ∧ wr.ownsRow w.heap.size 49 9 (.slice (some ⟨g, 0, none⟩) acc.length cap) acc.length (wlCells acc) ∧ acc.length ≤ t ∧ (∀ y ∈ acc, y.c.smallB 1000000 = true) ∧ foldW putW [] ws = foldW putW acc (ws.drop t) ∧ Below w.heap.size w wr) (fun _ _ _ i _ => ws.length - (intOf i).toNat)
  case atStart => exact ⟨0, w.heap.size, 0, [], by omega, rfl, rfl, Ho0.out, by simp, by simp, rfl, Hb0.out⟩
  case round =>
    obtain ⟨t, g, cap, acc, ht, rfl, rfl, ho, hal, has, hf, hb⟩ := hrel
    clear Ho0 Hb0
    have Hacc := hide has
    have Hf := hide hf
    clear has hf
    by_cases hlt : t < ws.length
    · obtain ⟨b, o, rfl, hbl, hcell⟩ := hc (by omega) (by omega)
      have hA := wl_cells (below_cells hb hbl hcell) t hlt
      have hms := Hsm.out _ (List.getElem_mem hlt)
      have Hst := hide (foldW_step putW acc ws t hlt)
      clear hcell hc
      generalize ws[t] = m at hA Hst hms
      have Hms := hide hms
      have hpl := putW_len acc m
      clear hms
      obtain ⟨p0, p1, p2, p3, p4, p5, p6, p7, p8⟩ := hA
      have hb1 : Below wr.heap.size wr (wr.alloc (.cells m.arr 49)) := kept_new _ _
      have hblk := blk9_new wr m 49
      have ho1 := owns_kept ho hb1
      have hidx := idxW_ok 69 #[.pointer (some ⟨wr.heap.size, 0, none⟩)] (fun x => x.s == m.s) Eg1.out _ acc _ (owns_reads ho1) (fun x W hW => speedIs_ok x m wr.heap.size W (blk9_kept hblk hW))
      have Hb1 := hide hb1
      have Hblk1 := hide hblk
      have Ho1 := hide ho1
      have Hb := hide hb
      have hbs := hb.size
      have hgw := (ho.lt g rfl).2
      clear hb1 hblk ho1 ho hb
      unfold W9.arr at hidx
      go_wp2_with fail
      refine hidx.mono ?_
      rintro e w2 ⟨k, rfl, hk, hb2⟩
      clear hidx p0 p1 p2 p3 p4 p5 p6 p7 p8
      have hk2 : Below wr.heap.size wr w2 := kept_trans Hb1.out hb2
      have Hb02 := hide (kept_trans Hb.out hk2)
      have hblk2 := blk9_kept Hblk1.out hb2
      have ho2 := owns_kept Ho1.out hb2
      have hgl := (ho2.lt g rfl).1
      clear hb2 hk2 Hb1 Hblk1 Ho1 Hb hmf
      generalize hB : wr.heap.size = B at *
      have hB2 : B < w2.heap.size := blk9_lt hblk2
      clear hB
      rcases hk with ⟨rfl, hall⟩ | ⟨i, rfl, hil0, hhit, hbef⟩
      · obtain ⟨hput, hrad⟩ := putW_none (ws := acc) (w := m) fun x hx => by
          obtain ⟨j, hj, rfl⟩ := List.getElem_of_mem hx
          have := hall j hj
          simpa using this
        have e0 := blk9_cell hblk2 0 (by omega)
        have e0' : w2.cell? ⟨B, 0, none⟩ = some (.int .i64 m.s) := e0
        have hbs2 := Hb02.out.size
        have Hput := hide hput
        have Hrad0 := hide hrad
        clear hall hput hrad e0
        go_wp2_with (at_builtin; refine wpList_append_one w2 rfl _ _ 29 rfl w.heap.size 49 i0 _ 9 72 Try.underlying29 hi hz0 hz1 hz2 rfl (by decide) _ _ _ rfl ho2 ({ s := m.s, c := zero8 } : W9).cells _ _ rfl rfl (by simp [Value.oneCell', W9.cells]) (by omega) (by decide) hbs2 rfl (by simp) ?_)
        intro g1 cap1 w3 ho3 hg3 hr3
        have hg1 : w.heap.size ≤ g1 := (ho3.lt g1 rfl).1
        have Hb03 := hide (kept_grown Hb02.out hg3 hr3)
        have Hblk : Hid (Blk9 w3 B 49 m) := (hg3.block B hB2 (by simp [Value.ownBlock]; omega)).trans hblk2
        have hl1 : acc.length + 1 = (acc ++ [({ s := m.s, c := zero8 } : W9)]).length := by simp
        have hc1 : wlCells acc ++ ({ s := m.s, c := zero8 } : W9).cells = wlCells (acc ++ [({ s := m.s, c := zero8 } : W9)]) := by rw [wlCells_app, wlCells_one1]
        rw [hl1, hc1] at ho3
        rw [hl1]
        have Hat : Hid ((acc ++ [({ s := m.s, c := zero8 } : W9)])[acc.length]? = some ⟨m.s, zero8⟩) := by show _ = _; simp
        have Hset : Hid ((acc ++ [({ s := m.s, c := zero8 } : W9)]).set acc.length ⟨m.s, zero8.add m.c⟩ = putW acc m) := by show _ = _; rw [Hput.out, C8.zero_add]; simp
        have Hrad : Hid (radW acc m = zero8.add m.c) := by rw [C8.zero_add]; exact Hrad0.out
        have Hrs : Hid (zero8.smallB 1000000 = true) := by show _ = _; decide
        have hal1 : (acc ++ [({ s := m.s, c := zero8 } : W9)]).length ≤ acc.length + 1 := by simp
        have Ho3 := hide ho3
        clear ho3 hc1 hl1 hg3 hr3 ho2 Hput Hrad0 hblk2 e0' hB2 hgl
        generalize (acc ++ [({ s := m.s, c := zero8 } : W9)]) = acc1 at *
        generalize zero8 = r at Hat Hset Hrad Hrs
        have hil : acc.length < acc1.length := (List.getElem?_eq_some_iff.1 Hat.out).1
        obtain ⟨-, p1, p2, p3, p4, p5, p6, p7, p8⟩ := cells9_at Ho3.out rfl acc.length _ Hat.out
        obtain ⟨-, q1, q2, q3, q4, q5, q6, q7, q8⟩ := blk9_cells Hblk.out
        have c1 : (0 : Int) ≤ (acc.length : Int) := by omega
        have c2 : (acc.length : Int) < (acc1.length : Int) := by omega
        go_wp2_with fail
        refine wp_region_held (S := fun _ => True) (by kernel_rfl) ?_
        change wpAnyH _ _ _ _ _ _ _ _ w3.drew
        refine wpAnyH_take (i := 0) (v := .slice (some ⟨g1, 0, none⟩) acc1.length cap1) rfl (by kernel_rfl) (by kernel_rfl) (by kernel_rfl) (fun _ _ _ h => h) (.inl ⟨by kernel_rfl, fun _ _ => by go_simp⟩) trivial ?_
        refine wpAnyH_take (i := 1) (v := .int .i64 acc.length) rfl (by kernel_rfl) (by kernel_rfl) (by kernel_rfl) (fun _ _ _ h => h) (.inl ⟨by kernel_rfl, fun _ _ => by go_simp⟩) trivial ?_
        refine wpAnyH_take (i := 2) (v := .slice (some ⟨g1, 0, none⟩) acc1.length cap1) rfl (by kernel_rfl) (by kernel_rfl) (by kernel_rfl) (fun _ _ _ h => h) (.inl ⟨by kernel_rfl, fun _ _ => by go_simp⟩) trivial ?_
        refine wpAnyH_take (i := 3) (v := .int .i64 acc.length) rfl (by kernel_rfl) (by kernel_rfl) (by kernel_rfl) (fun _ _ _ h => h) (.inl ⟨by kernel_rfl, fun _ _ => by go_simp⟩) trivial ?_
        refine wpAnyH_take (i := 4) (v := .pointer (some ⟨g1, acc.length * 9, none⟩)) rfl (by kernel_rfl) (by kernel_rfl) (by kernel_rfl) (fun _ _ _ h => h) (.inl ⟨by kernel_rfl, fun _ _ => by go_simp⟩) trivial ?_
        refine wpAnyH_take (i := 5) (v := .pointer (some ⟨g1, acc.length * 9 + 1, none⟩)) rfl (by kernel_rfl) (by kernel_rfl) (by kernel_rfl) (fun _ _ _ h => h) (.inl ⟨by kernel_rfl, fun _ _ => by go_simp⟩) trivial ?_
        refine wpAnyH_take (i := 7) (v := .pointer (some ⟨B, 1, none⟩)) rfl (by kernel_rfl) (by kernel_rfl) (by kernel_rfl) (fun _ _ _ h => h) (.inl ⟨by kernel_rfl, fun _ _ => by go_simp⟩) trivial ?_
        refine wpAnyH_all (rs := [6, 8]) (by kernel_rfl) (by simp) (List.forall_mem_cons.2 ⟨?_, List.forall_mem_cons.2 ⟨?_, List.forall_mem_nil _⟩⟩)
        · refine opH_run (v := .agg #[.int .i64 r.a0, .int .i64 r.a1, .int .i64 r.a2, .int .i64 r.a3, .int .i64 r.a4, .int .i64 r.a5, .int .i64 r.a6, .int .i64 r.a7]) (w' := w3.drew) rfl (by kernel_rfl) (by go_simp) ?_
          refine ⟨trivial, ?_⟩
          refine wpAnyH_all (rs := [8]) (by kernel_rfl) (by simp) (List.forall_mem_cons.2 ⟨?_, List.forall_mem_nil _⟩)
          refine opH_run (v := .agg #[.int .i64 m.c.a0, .int .i64 m.c.a1, .int .i64 m.c.a2, .int .i64 m.c.a3, .int .i64 m.c.a4, .int .i64 m.c.a5, .int .i64 m.c.a6, .int .i64 m.c.a7]) (w' := w3.drew) rfl (by kernel_rfl) (by go_simp) ?_
          refine ⟨trivial, ?_⟩
          refine wpAnyH_all (rs := [9]) (by kernel_rfl) (by simp) (List.forall_mem_cons.2 ⟨?_, List.forall_mem_nil _⟩)
          refine opH_call (f := 70) rfl (by kernel_rfl) (by go_simp; exact ⟨rfl, rfl⟩) (plus_ok r m.c _ (small_mid Hrs.out) (small_mid Hms.out)) ?_
          rintro e w4 ⟨rfl, hb4⟩
          have hk4 : Below w3.heap.size w3 w4 := kept_trans (kept_drew w3) hb4
          have Ho4 := hide (owns_kept Ho3.out hk4)
          refine ⟨_, rfl, trivial, ?_⟩
          refine wpAnyH_take (i := 10) (v := .pointer (some ⟨g1, acc.length * 9, none⟩)) rfl (by kernel_rfl) (by kernel_rfl) (by kernel_rfl) (fun _ _ _ h => h) (.inl ⟨by kernel_rfl, fun _ _ => by go_simp⟩) trivial ?_
          refine wpAnyH_take (i := 11) (v := .pointer (some ⟨g1, acc.length * 9 + 1, none⟩)) rfl (by kernel_rfl) (by kernel_rfl) (by kernel_rfl) (fun _ _ _ h => h) (.inl ⟨by kernel_rfl, fun _ _ => by go_simp⟩) trivial ?_
          refine wpAnyH_all (rs := [12]) (by kernel_rfl) (by simp) (List.forall_mem_cons.2 ⟨?_, List.forall_mem_nil _⟩)
          obtain ⟨-, z1, z2, z3, z4, z5, z6, z7, z8⟩ := cells9_at Ho4.out rfl acc.length _ Hat.out
          have fz := fun j => Ho4.out.frozenAt j
          refine opH_store (w' := setRad w4 g1 acc.length (r.add m.c)) rfl (by kernel_rfl) (by generalize r.add m.c = s; rw [val_spell]; go_simp; rfl) ?_
          clear z1 z2 z3 z4 z5 z6 z7 z8 fz
          refine ⟨trivial, ?_⟩
          refine wpAnyH_done (by kernel_rfl) ?_ _
          have hoN := owns_radS Ho4.out acc.length _ Hat.out (r.add m.c)
          have hkN := kept_setRad (kept_trans Hb03.out hk4) hg1 acc.length (r.add m.c)
          rw [Hset.out] at hoN
          have Hln : Hid ((putW acc m).length = acc1.length) := by show _ = _; rw [← Hset.out]; simp
          have hatN : (putW acc m)[acc.length]? = some ⟨m.s, r.add m.c⟩ := by rw [← Hset.out]; simp [hil]
          generalize setRad w4 g1 acc.length (r.add m.c) = w5 at *
          obtain ⟨-, z1, z2, z3, z4, z5, z6, z7, z8⟩ := cells9_at hoN Hln.out acc.length _ hatN
          have HoN := hide hoN
          have HkN := hide hkN
          clear hoN hkN hatN hk4 hb4
          rw [← Hrad.out] at z1 z2 z3 z4 z5 z6 z7 z8 ⊢
          generalize hrw : radW acc m = s at *
          have Hrw := hide hrw
          clear hrw
          go_simp
          go_wp2_with fail
          refine (valid_ok s _).mono ?_
          rintro e w6 ⟨rfl, hb6⟩
          cases hv : s.smallB 1000000
          · have Hv := hide hv
            clear hv
            go_wp2_with fail
            go_ret2
            exact ⟨_, by rw [tidy_fail ws (by rw [Hf.out, Hst.out, Hv.out]; rfl)]; rfl, by rw [tidy_fail ws (by rw [Hf.out, Hst.out, Hv.out]; rfl)]; exact has_nil _ _ _, kept_trans HkN.out hb6⟩
          · have Hv := hide hv
            clear hv
            go_wp2_with fail
            go_roundw
            case rel =>
              exact ⟨t + 1, g1, cap1, putW acc m, by omega, by go_num, by rw [Hln.out], by rw [Hln.out]; exact owns_kept HoN.out hb6, by rw [Hln.out]; omega, putW_small Hacc.out Hms.out (by rw [Hrw.out]; exact Hv.out), by rw [Hf.out, Hst.out, if_pos Hv.out], kept_trans HkN.out hb6⟩
            case measure => simp [intOf]; omega
        · refine opH_run (v := .agg #[.int .i64 m.c.a0, .int .i64 m.c.a1, .int .i64 m.c.a2, .int .i64 m.c.a3, .int .i64 m.c.a4, .int .i64 m.c.a5, .int .i64 m.c.a6, .int .i64 m.c.a7]) (w' := w3.drew) rfl (by kernel_rfl) (by go_simp) ?_
          refine ⟨trivial, ?_⟩
          refine wpAnyH_all (rs := [6]) (by kernel_rfl) (by simp) (List.forall_mem_cons.2 ⟨?_, List.forall_mem_nil _⟩)
          refine opH_run (v := .agg #[.int .i64 r.a0, .int .i64 r.a1, .int .i64 r.a2, .int .i64 r.a3, .int .i64 r.a4, .int .i64 r.a5, .int .i64 r.a6, .int .i64 r.a7]) (w' := w3.drew) rfl (by kernel_rfl) (by go_simp) ?_
          refine ⟨trivial, ?_⟩
          refine wpAnyH_all (rs := [9]) (by kernel_rfl) (by simp) (List.forall_mem_cons.2 ⟨?_, List.forall_mem_nil _⟩)
          refine opH_call (f := 70) rfl (by kernel_rfl) (by go_simp; exact ⟨rfl, rfl⟩) (plus_ok r m.c _ (small_mid Hrs.out) (small_mid Hms.out)) ?_
          rintro e w4 ⟨rfl, hb4⟩
          have hk4 : Below w3.heap.size w3 w4 := kept_trans (kept_drew w3) hb4
          have Ho4 := hide (owns_kept Ho3.out hk4)
          refine ⟨_, rfl, trivial, ?_⟩
          refine wpAnyH_take (i := 10) (v := .pointer (some ⟨g1, acc.length * 9, none⟩)) rfl (by kernel_rfl) (by kernel_rfl) (by kernel_rfl) (fun _ _ _ h => h) (.inl ⟨by kernel_rfl, fun _ _ => by go_simp⟩) trivial ?_
          refine wpAnyH_take (i := 11) (v := .pointer (some ⟨g1, acc.length * 9 + 1, none⟩)) rfl (by kernel_rfl) (by kernel_rfl) (by kernel_rfl) (fun _ _ _ h => h) (.inl ⟨by kernel_rfl, fun _ _ => by go_simp⟩) trivial ?_
          refine wpAnyH_all (rs := [12]) (by kernel_rfl) (by simp) (List.forall_mem_cons.2 ⟨?_, List.forall_mem_nil _⟩)
          obtain ⟨-, z1, z2, z3, z4, z5, z6, z7, z8⟩ := cells9_at Ho4.out rfl acc.length _ Hat.out
          have fz := fun j => Ho4.out.frozenAt j
          refine opH_store (w' := setRad w4 g1 acc.length (r.add m.c)) rfl (by kernel_rfl) (by generalize r.add m.c = s; rw [val_spell]; go_simp; rfl) ?_
          clear z1 z2 z3 z4 z5 z6 z7 z8 fz
          refine ⟨trivial, ?_⟩
          refine wpAnyH_done (by kernel_rfl) ?_ _
          have hoN := owns_radS Ho4.out acc.length _ Hat.out (r.add m.c)
          have hkN := kept_setRad (kept_trans Hb03.out hk4) hg1 acc.length (r.add m.c)
          rw [Hset.out] at hoN
          have Hln : Hid ((putW acc m).length = acc1.length) := by show _ = _; rw [← Hset.out]; simp
          have hatN : (putW acc m)[acc.length]? = some ⟨m.s, r.add m.c⟩ := by rw [← Hset.out]; simp [hil]
          generalize setRad w4 g1 acc.length (r.add m.c) = w5 at *
          obtain ⟨-, z1, z2, z3, z4, z5, z6, z7, z8⟩ := cells9_at hoN Hln.out acc.length _ hatN
          have HoN := hide hoN
          have HkN := hide hkN
          clear hoN hkN hatN hk4 hb4
          rw [← Hrad.out] at z1 z2 z3 z4 z5 z6 z7 z8 ⊢
          generalize hrw : radW acc m = s at *
          have Hrw := hide hrw
          clear hrw
          go_simp
          go_wp2_with fail
          refine (valid_ok s _).mono ?_
          rintro e w6 ⟨rfl, hb6⟩
          cases hv : s.smallB 1000000
          · have Hv := hide hv
            clear hv
            go_wp2_with fail
            go_ret2
            exact ⟨_, by rw [tidy_fail ws (by rw [Hf.out, Hst.out, Hv.out]; rfl)]; rfl, by rw [tidy_fail ws (by rw [Hf.out, Hst.out, Hv.out]; rfl)]; exact has_nil _ _ _, kept_trans HkN.out hb6⟩
          · have Hv := hide hv
            clear hv
            go_wp2_with fail
            go_roundw
            case rel =>
              exact ⟨t + 1, g1, cap1, putW acc m, by omega, by go_num, by rw [Hln.out], by rw [Hln.out]; exact owns_kept HoN.out hb6, by rw [Hln.out]; omega, putW_small Hacc.out Hms.out (by rw [Hrw.out]; exact Hv.out), by rw [Hf.out, Hst.out, if_pos Hv.out], kept_trans HkN.out hb6⟩
            case measure => simp [intOf]; omega
      · have he : (acc[i]).s = m.s := by simpa using hhit
        obtain ⟨hput, hrad⟩ := putW_some (w := m) hil0 he fun j h hj => by simpa using hbef j h hj
        have Hblk := hide hblk2
        have Hat : Hid (acc[i]? = some ⟨m.s, (acc[i]).c⟩) := by show _ = _; rw [← he]; simp [hil0]
        have Hset := hide hput.symm
        have Hrad := hide hrad
        have Hrs := hide (Hacc.out _ (List.getElem_mem hil0))
        have Ho3 := hide ho2
        have Hb03 := Hb02
        have hg1 := hgl
        clear hput hrad he hhit hbef ho2 hblk2
        generalize (acc[i]).c = r at Hat Hset Hrad Hrs
        have hil : i < acc.length := (List.getElem?_eq_some_iff.1 Hat.out).1
        obtain ⟨-, p1, p2, p3, p4, p5, p6, p7, p8⟩ := cells9_at Ho3.out rfl i _ Hat.out
        obtain ⟨-, q1, q2, q3, q4, q5, q6, q7, q8⟩ := blk9_cells Hblk.out
        have c1 : (0 : Int) ≤ (i : Int) := by omega
        have c2 : (i : Int) < (acc.length : Int) := by omega
        go_wp2_with fail
        refine wp_region_held (S := fun _ => True) (by kernel_rfl) ?_
        change wpAnyH _ _ _ _ _ _ _ _ w2.drew
        refine wpAnyH_take (i := 0) (v := .slice (some ⟨g, 0, none⟩) acc.length cap) rfl (by kernel_rfl) (by kernel_rfl) (by kernel_rfl) (fun _ _ _ h => h) (.inl ⟨by kernel_rfl, fun _ _ => by go_simp⟩) trivial ?_
        refine wpAnyH_take (i := 1) (v := .int .i64 i) rfl (by kernel_rfl) (by kernel_rfl) (by kernel_rfl) (fun _ _ _ h => h) (.inl ⟨by kernel_rfl, fun _ _ => by go_simp⟩) trivial ?_
        refine wpAnyH_take (i := 2) (v := .slice (some ⟨g, 0, none⟩) acc.length cap) rfl (by kernel_rfl) (by kernel_rfl) (by kernel_rfl) (fun _ _ _ h => h) (.inl ⟨by kernel_rfl, fun _ _ => by go_simp⟩) trivial ?_
        refine wpAnyH_take (i := 3) (v := .int .i64 i) rfl (by kernel_rfl) (by kernel_rfl) (by kernel_rfl) (fun _ _ _ h => h) (.inl ⟨by kernel_rfl, fun _ _ => by go_simp⟩) trivial ?_
        refine wpAnyH_take (i := 4) (v := .pointer (some ⟨g, i * 9, none⟩)) rfl (by kernel_rfl) (by kernel_rfl) (by kernel_rfl) (fun _ _ _ h => h) (.inl ⟨by kernel_rfl, fun _ _ => by go_simp⟩) trivial ?_
        refine wpAnyH_take (i := 5) (v := .pointer (some ⟨g, i * 9 + 1, none⟩)) rfl (by kernel_rfl) (by kernel_rfl) (by kernel_rfl) (fun _ _ _ h => h) (.inl ⟨by kernel_rfl, fun _ _ => by go_simp⟩) trivial ?_
        refine wpAnyH_take (i := 7) (v := .pointer (some ⟨B, 1, none⟩)) rfl (by kernel_rfl) (by kernel_rfl) (by kernel_rfl) (fun _ _ _ h => h) (.inl ⟨by kernel_rfl, fun _ _ => by go_simp⟩) trivial ?_
        refine wpAnyH_all (rs := [6, 8]) (by kernel_rfl) (by simp) (List.forall_mem_cons.2 ⟨?_, List.forall_mem_cons.2 ⟨?_, List.forall_mem_nil _⟩⟩)
        · refine opH_run (v := .agg #[.int .i64 r.a0, .int .i64 r.a1, .int .i64 r.a2, .int .i64 r.a3, .int .i64 r.a4, .int .i64 r.a5, .int .i64 r.a6, .int .i64 r.a7]) (w' := w2.drew) rfl (by kernel_rfl) (by go_simp) ?_
          refine ⟨trivial, ?_⟩
          refine wpAnyH_all (rs := [8]) (by kernel_rfl) (by simp) (List.forall_mem_cons.2 ⟨?_, List.forall_mem_nil _⟩)
          refine opH_run (v := .agg #[.int .i64 m.c.a0, .int .i64 m.c.a1, .int .i64 m.c.a2, .int .i64 m.c.a3, .int .i64 m.c.a4, .int .i64 m.c.a5, .int .i64 m.c.a6, .int .i64 m.c.a7]) (w' := w2.drew) rfl (by kernel_rfl) (by go_simp) ?_
          refine ⟨trivial, ?_⟩
          refine wpAnyH_all (rs := [9]) (by kernel_rfl) (by simp) (List.forall_mem_cons.2 ⟨?_, List.forall_mem_nil _⟩)
          refine opH_call (f := 70) rfl (by kernel_rfl) (by go_simp; exact ⟨rfl, rfl⟩) (plus_ok r m.c _ (small_mid Hrs.out) (small_mid Hms.out)) ?_
          rintro e w4 ⟨rfl, hb4⟩
          have hk4 : Below w2.heap.size w2 w4 := kept_trans (kept_drew w2) hb4
          have Ho4 := hide (owns_kept Ho3.out hk4)
          refine ⟨_, rfl, trivial, ?_⟩
          refine wpAnyH_take (i := 10) (v := .pointer (some ⟨g, i * 9, none⟩)) rfl (by kernel_rfl) (by kernel_rfl) (by kernel_rfl) (fun _ _ _ h => h) (.inl ⟨by kernel_rfl, fun _ _ => by go_simp⟩) trivial ?_
          refine wpAnyH_take (i := 11) (v := .pointer (some ⟨g, i * 9 + 1, none⟩)) rfl (by kernel_rfl) (by kernel_rfl) (by kernel_rfl) (fun _ _ _ h => h) (.inl ⟨by kernel_rfl, fun _ _ => by go_simp⟩) trivial ?_
          refine wpAnyH_all (rs := [12]) (by kernel_rfl) (by simp) (List.forall_mem_cons.2 ⟨?_, List.forall_mem_nil _⟩)
          obtain ⟨-, z1, z2, z3, z4, z5, z6, z7, z8⟩ := cells9_at Ho4.out rfl i _ Hat.out
          have fz := fun j => Ho4.out.frozenAt j
          refine opH_store (w' := setRad w4 g i (r.add m.c)) rfl (by kernel_rfl) (by generalize r.add m.c = s; rw [val_spell]; go_simp; rfl) ?_
          clear z1 z2 z3 z4 z5 z6 z7 z8 fz
          refine ⟨trivial, ?_⟩
          refine wpAnyH_done (by kernel_rfl) ?_ _
          have hoN := owns_radS Ho4.out i _ Hat.out (r.add m.c)
          have hkN := kept_setRad (kept_trans Hb03.out hk4) hg1 i (r.add m.c)
          rw [Hset.out] at hoN
          have Hln : Hid ((putW acc m).length = acc.length) := by show _ = _; rw [← Hset.out]; simp
          have hatN : (putW acc m)[i]? = some ⟨m.s, r.add m.c⟩ := by rw [← Hset.out]; simp [hil]
          generalize setRad w4 g i (r.add m.c) = w5 at *
          obtain ⟨-, z1, z2, z3, z4, z5, z6, z7, z8⟩ := cells9_at hoN Hln.out i _ hatN
          have HoN := hide hoN
          have HkN := hide hkN
          clear hoN hkN hatN hk4 hb4
          rw [← Hrad.out] at z1 z2 z3 z4 z5 z6 z7 z8 ⊢
          generalize hrw : radW acc m = s at *
          have Hrw := hide hrw
          clear hrw
          go_simp
          go_wp2_with fail
          refine (valid_ok s _).mono ?_
          rintro e w6 ⟨rfl, hb6⟩
          cases hv : s.smallB 1000000
          · have Hv := hide hv
            clear hv
            go_wp2_with fail
            go_ret2
            exact ⟨_, by rw [tidy_fail ws (by rw [Hf.out, Hst.out, Hv.out]; rfl)]; rfl, by rw [tidy_fail ws (by rw [Hf.out, Hst.out, Hv.out]; rfl)]; exact has_nil _ _ _, kept_trans HkN.out hb6⟩
          · have Hv := hide hv
            clear hv
            go_wp2_with fail
            go_roundw
            case rel =>
              exact ⟨t + 1, g, cap, putW acc m, by omega, by go_num, by rw [Hln.out], by rw [Hln.out]; exact owns_kept HoN.out hb6, by rw [Hln.out]; omega, putW_small Hacc.out Hms.out (by rw [Hrw.out]; exact Hv.out), by rw [Hf.out, Hst.out, if_pos Hv.out], kept_trans HkN.out hb6⟩
            case measure => simp [intOf]; omega
        · refine opH_run (v := .agg #[.int .i64 m.c.a0, .int .i64 m.c.a1, .int .i64 m.c.a2, .int .i64 m.c.a3, .int .i64 m.c.a4, .int .i64 m.c.a5, .int .i64 m.c.a6, .int .i64 m.c.a7]) (w' := w2.drew) rfl (by kernel_rfl) (by go_simp) ?_
          refine ⟨trivial, ?_⟩
          refine wpAnyH_all (rs := [6]) (by kernel_rfl) (by simp) (List.forall_mem_cons.2 ⟨?_, List.forall_mem_nil _⟩)
          refine opH_run (v := .agg #[.int .i64 r.a0, .int .i64 r.a1, .int .i64 r.a2, .int .i64 r.a3, .int .i64 r.a4, .int .i64 r.a5, .int .i64 r.a6, .int .i64 r.a7]) (w' := w2.drew) rfl (by kernel_rfl) (by go_simp) ?_
          refine ⟨trivial, ?_⟩
          refine wpAnyH_all (rs := [9]) (by kernel_rfl) (by simp) (List.forall_mem_cons.2 ⟨?_, List.forall_mem_nil _⟩)
          refine opH_call (f := 70) rfl (by kernel_rfl) (by go_simp; exact ⟨rfl, rfl⟩) (plus_ok r m.c _ (small_mid Hrs.out) (small_mid Hms.out)) ?_
          rintro e w4 ⟨rfl, hb4⟩
          have hk4 : Below w2.heap.size w2 w4 := kept_trans (kept_drew w2) hb4
          have Ho4 := hide (owns_kept Ho3.out hk4)
          refine ⟨_, rfl, trivial, ?_⟩
          refine wpAnyH_take (i := 10) (v := .pointer (some ⟨g, i * 9, none⟩)) rfl (by kernel_rfl) (by kernel_rfl) (by kernel_rfl) (fun _ _ _ h => h) (.inl ⟨by kernel_rfl, fun _ _ => by go_simp⟩) trivial ?_
          refine wpAnyH_take (i := 11) (v := .pointer (some ⟨g, i * 9 + 1, none⟩)) rfl (by kernel_rfl) (by kernel_rfl) (by kernel_rfl) (fun _ _ _ h => h) (.inl ⟨by kernel_rfl, fun _ _ => by go_simp⟩) trivial ?_
          refine wpAnyH_all (rs := [12]) (by kernel_rfl) (by simp) (List.forall_mem_cons.2 ⟨?_, List.forall_mem_nil _⟩)
          obtain ⟨-, z1, z2, z3, z4, z5, z6, z7, z8⟩ := cells9_at Ho4.out rfl i _ Hat.out
          have fz := fun j => Ho4.out.frozenAt j
          refine opH_store (w' := setRad w4 g i (r.add m.c)) rfl (by kernel_rfl) (by generalize r.add m.c = s; rw [val_spell]; go_simp; rfl) ?_
          clear z1 z2 z3 z4 z5 z6 z7 z8 fz
          refine ⟨trivial, ?_⟩
          refine wpAnyH_done (by kernel_rfl) ?_ _
          have hoN := owns_radS Ho4.out i _ Hat.out (r.add m.c)
          have hkN := kept_setRad (kept_trans Hb03.out hk4) hg1 i (r.add m.c)
          rw [Hset.out] at hoN
          have Hln : Hid ((putW acc m).length = acc.length) := by show _ = _; rw [← Hset.out]; simp
          have hatN : (putW acc m)[i]? = some ⟨m.s, r.add m.c⟩ := by rw [← Hset.out]; simp [hil]
          generalize setRad w4 g i (r.add m.c) = w5 at *
          obtain ⟨-, z1, z2, z3, z4, z5, z6, z7, z8⟩ := cells9_at hoN Hln.out i _ hatN
          have HoN := hide hoN
          have HkN := hide hkN
          clear hoN hkN hatN hk4 hb4
          rw [← Hrad.out] at z1 z2 z3 z4 z5 z6 z7 z8 ⊢
          generalize hrw : radW acc m = s at *
          have Hrw := hide hrw
          clear hrw
          go_simp
          go_wp2_with fail
          refine (valid_ok s _).mono ?_
          rintro e w6 ⟨rfl, hb6⟩
          cases hv : s.smallB 1000000
          · have Hv := hide hv
            clear hv
            go_wp2_with fail
            go_ret2
            exact ⟨_, by rw [tidy_fail ws (by rw [Hf.out, Hst.out, Hv.out]; rfl)]; rfl, by rw [tidy_fail ws (by rw [Hf.out, Hst.out, Hv.out]; rfl)]; exact has_nil _ _ _, kept_trans HkN.out hb6⟩
          · have Hv := hide hv
            clear hv
            go_wp2_with fail
            go_roundw
            case rel =>
              exact ⟨t + 1, g, cap, putW acc m, by omega, by go_num, by rw [Hln.out], by rw [Hln.out]; exact owns_kept HoN.out hb6, by rw [Hln.out]; omega, putW_small Hacc.out Hms.out (by rw [Hrw.out]; exact Hv.out), by rw [Hf.out, Hst.out, if_pos Hv.out], kept_trans HkN.out hb6⟩
            case measure => simp [intOf]; omega
    · obtain rfl : t = ws.length := by omega
      have Hfold : Hid (foldW putW [] ws = (acc, true)) := by show _ = _; rw [Hf.out, List.drop_length]; rfl
      have hcap := owns_cap ho
      have hgl := (ho.lt g rfl).1
      have hh := has_owns ho
      have Hb := hide hb
      clear ho hb hc
      go_wp2_with fail
      refine (delW_ok w.heap.size g cap acc _ hh hcap (by omega)).mono ?_
      rintro e w1 ⟨rfl, hh1, hg1⟩
      have hb1 := kept_grown Hb.out hg1 (fun k hk => by cases hk; exact hgl)
      clear hh hg1
      have Hh1 := hide hh1
      have hnl := nonzero_len acc
      cases hd : designB (nonzero acc)
      · have Hfin : Hid (tidyRes ws = ([], false)) := (tidy_same ws Hfold.out).2 hd
        have Hd := hide hd
        clear hd hh1
        go_wp2_with fail
        refine (designImpl_ok _ (nonzero acc) _ (has_reads Hh1.out) (by omega)).mono ?_
        rintro e w2 ⟨rfl, hb2⟩
        rw [Hd.out]
        go_wp2_with fail
        go_ret2
        exact ⟨_, by rw [Hfin.out]; rfl, by rw [Hfin.out]; exact has_nil _ _ _, kept_trans hb1 hb2⟩
      · obtain ⟨hs1, hs2⟩ := sortW_holds (nonzero acc)
        have Hfin : Hid (tidyRes ws = (sortW (nonzero acc), true)) := (tidy_same ws Hfold.out).1 hd _ hs1 hs2
        have Hsl : Hid ((sortW (nonzero acc)).length = (nonzero acc).length) := hs1.length_eq
        have h12 : (nonzero acc).length ≤ 12 := (designB_small hd).1
        have Hd := hide hd
        clear hd hh1 hs1 hs2
        go_wp2_with fail
        refine (designImpl_ok _ (nonzero acc) _ (has_reads Hh1.out) (by omega)).mono ?_
        rintro e w2 ⟨rfl, hb2⟩
        rw [Hd.out]
        go_wp2_with fail
        refine (sortF_ok w.heap.size g cap (nonzero acc) _ (has_kept Hh1.out hb2) h12).mono ?_
        rintro e w3 ⟨rfl, hh3, hg3⟩
        have hb3 := kept_grown (kept_trans hb1 hb2) hg3 (fun k hk => by cases hk; exact hgl)
        have Hh3 := hide hh3
        clear hh3 hg3
        have hcap2 : (nonzero acc).length ≤ cap := by omega
        go_wp2_with (first | (go_at_call 76; go_in) | fail)
        go_ret2
        exact ⟨_, by rw [Hfin.out]; rfl, by rw [Hfin.out]; show Has _ _ 9 _ (sortW (nonzero acc)).length _; rw [Hsl.out]; exact has_clip Hh3.out _, hb3⟩

end Go.Proofs.Ytodjmmdfgjkhiaa
