/-
  The program's designs that come of changing each wheel; DesignTidy.
-/
import Derived.Test.YtodjmmdfgjkhiaaWti
namespace Go.Proofs.Ytodjmmdfgjkhiaa
open Go.RowKit

set_option maxRecDepth 100000 in
set_option maxHeartbeats 1000000 in
theorem same_ok (x : W9) (w : World) :
    Calls Try.prog 44 #[x.val] w fun e w' => e = .returned x.val ∧ Below w.heap.size w w' := by
  rw [val9_spell]
  go_enter Try.func44, Try.ntmps44
  go_wp2_with fail
  exact bodyPost_ret (v := .agg #[.int .i64 x.s, .int .i64 x.c.a0, .int .i64 x.c.a1, .int .i64 x.c.a2, .int .i64 x.c.a3, .int .i64 x.c.a4, .int .i64 x.c.a5, .int .i64 x.c.a6, .int .i64 x.c.a7]) (by simp [results, Try.results44, go_sem]) rfl ⟨rfl, kept_alloc (kept_new _ _) _⟩

theorem faster_ok (x : W9) (n : Int) (B : Nat) (w : World) (hB : w.cell? ⟨B, 0, none⟩ = some (.int .i64 n)) (hn : -20 ≤ n ∧ n ≤ 20) (hx : x.okB = true) :
    Calls Try.prog 41 #[x.val, .pointer (some ⟨B, 0, none⟩)] w fun e w' => e = .returned (⟨n * x.s, x.c⟩ : W9).val ∧ Below w.heap.size w w' := by
  obtain ⟨h1, h2, _⟩ := okB_t hx
  have hl : B < w.heap.size := World.block_lt_of_cell? w _ hB
  have hm : -20000 ≤ n * x.s ∧ n * x.s ≤ 20000 := by
    have ha : (n * x.s).natAbs = n.natAbs * x.s.natAbs := Int.natAbs_mul _ _
    have hb : n.natAbs * x.s.natAbs ≤ 20 * 1000 := Nat.mul_le_mul (by omega) (by omega)
    omega
  clear hx
  rw [val9_spell, val9_spell]
  generalize hq : n * x.s = q at hm ⊢
  have Hq := hide hq
  clear hq
  have hw : Hid (wrap64 (n * x.s) = q) := by show _ = _; rw [Hq.out]; exact IntWalk.wrap64_in _ ⟨by omega, by omega⟩
  go_enter Try.func41, Try.ntmps41
  go_wp2_with fail
  rw [hw.out]
  exact bodyPost_ret (v := .agg #[.int .i64 q, .int .i64 x.c.a0, .int .i64 x.c.a1, .int .i64 x.c.a2, .int .i64 x.c.a3, .int .i64 x.c.a4, .int .i64 x.c.a5, .int .i64 x.c.a6, .int .i64 x.c.a7]) (by simp [results, Try.results41, go_sem]) rfl ⟨rfl, kept_alloc (kept_new _ _) _⟩

def changeRes (f : W9 → W9) (ws : List W9) : List W9 × Bool := if designB ws = true then tidyRes (ws.map f) else ([], false)

theorem map_take_succ (f : W9 → W9) (ws : List W9) (t : Nat) (h : t < ws.length) : (ws.map f).take (t + 1) = (ws.map f).take t ++ [f (ws[t])] := by
  rw [List.take_succ_eq_append_getElem (by simpa using h)]
  simp

/-- A function value that changes a wheel to f x, in whatever world that keeps what lay. -/
def ChangeW (g : Nat) (cb : Array Value) (f : W9 → W9) (w : World) : Prop :=
  ∀ (x : W9) (W : World), x.okB = true → Below w.heap.size w W → Calls Try.prog g (#[x.val] ++ cb) W fun e w' => e = .returned (f x).val ∧ Below W.heap.size W w'

set_option maxRecDepth 100000 in
set_option maxHeartbeats 2000000 in
theorem changed_ok (g0 : Nat) (cb : Array Value) (f : W9 → W9) (eg : ∀ args w, (callFunc g0 args).run Try.prog w = .ok (.enter g0 args) w) (v : Value) (ws : List W9) (w : World) (hr : Reads w 9 v ws.length (wlCells ws)) (hn : ws.length ≤ 1048576)
    (hp : ChangeW g0 cb f w) (hf : ∀ x : W9, x.okB = true → (f x).c.smallB 1000000 = true) :
    Calls Try.prog 40 #[v, .func (.func g0) #[] cb] w (WlPost (changeRes f ws) w) := by
  obtain ⟨i0, hi, hz0, hz1, hz2⟩ := info_parts Try.infoW
  have Hr := hide hr
  obtain ⟨_, hm, A, c, rfl, hc⟩ := hr
  have Hp := hide hp
  have Hf := hide hf
  clear hp hf
  cases hd : designB ws
  · have Hfin : Hid (changeRes f ws = ([], false)) := by simp [changeRes, hd, Hid]
    have Hd := hide hd
    clear hd
    go_enter Try.func40, Try.ntmps40
    go_wp2_with fail
    refine (designImpl_ok _ ws _ Hr.out hn).mono ?_
    rintro e w1 ⟨rfl, hb1⟩
    rw [Hd.out]
    go_wp2_with fail
    go_ret2
    exact ⟨_, by rw [Hfin.out]; rfl, by rw [Hfin.out]; exact has_nil _ _ _, hb1⟩
  · have Hfin : Hid (changeRes f ws = tidyRes (ws.map f)) := by simp [changeRes, hd, Hid]
    have hl : ws.length ≤ 12 := (designB_small hd).1
    have hok : ∀ y ∈ ws, y.okB = true := by
      simp only [designB, Bool.and_eq_true, decide_eq_true_eq, List.all_eq_true] at hd
      exact hd.2
    have Hok := hide hok
    have Hd := hide hd
    clear hd hok
    go_enter Try.func40, Try.ntmps40
    go_wp2_with fail
    refine (designImpl_ok _ ws _ Hr.out hn).mono ?_
    rintro e w1 ⟨rfl, hb1⟩
    rw [Hd.out]
    go_wp2_with (at_make; refine wpList_make_own _ rfl _ _ 29 rfl w.heap.size 49 i0 _ 9 Try.underlying29 hi hz0 hz1 _ _ _ ws.length rfl rfl rfl (by rw [hz2]; omega) (by unfold maxLen; omega) hb1.size ?_)
    intro w3 ho2 hgrow
    have hb1' := kept_grown hb1 hgrow (by simp)
    clear hgrow hb1
    go_wp2_with fail
    go_loopw [6, 8, 17] (fun v _ i wr => ∃ (t g cap : Nat), t ≤ ws.length ∧ i = .int .i64 t ∧ v = .slice (some ⟨g, 0, none⟩) t cap ∧ wr.ownsRow w.heap.size 49 9 (.slice (some ⟨g, 0, none⟩) t cap) t (wlCells ((ws.map f).take t)) ∧ Below w.heap.size w wr) (fun _ _ i _ => ws.length - (intOf i).toNat)
    case atStart => exact ⟨0, _, _, by omega, rfl, rfl, by simpa [wlCells] using ho2, hb1'⟩
    case round =>
      obtain ⟨t, g, cap, ht, rfl, rfl, ho, hb⟩ := hrel
      clear ho2 hb1'
      by_cases hlt : t < ws.length
      · obtain ⟨b, o, rfl, hbl, hcell⟩ := hc (by omega) (by omega)
        have hA := wl_cells (below_cells hb hbl hcell) t hlt
        have Hs := hide (map_take_succ f ws t hlt)
        have Hokm := hide (Hok.out _ (List.getElem_mem hlt))
        clear hcell hc
        generalize ws[t] = m at hA Hs Hokm
        obtain ⟨p0, p1, p2, p3, p4, p5, p6, p7, p8⟩ := hA
        have hb2 : Below wr.heap.size wr (wr.alloc (.cells m.arr 49)) := kept_new _ _
        have hcall := Hp.out m _ Hokm.out (kept_trans hb hb2)
        have Ho2 := hide (owns_kept ho hb2)
        have Hb02 := hide (kept_trans hb hb2)
        have hbs := hb.size
        rw [val9_spell m] at hcall
        unfold W9.arr at hcall
        clear ho hb hb2
        go_wp2_with (first
          | (go_at_fn g0; refine hcall.mono ?_; rintro e w2 ⟨rfl, hbc⟩; have ho3 := owns_kept Ho2.out hbc; have Hb03 := hide (kept_trans Hb02.out hbc); have hsz3 := Hb03.out.size; rw [val9_spell]; clear hcall)
          | (at_builtin; refine wpList_append_one w2 rfl _ _ 29 rfl w.heap.size 49 i0 _ 9 72 Try.underlying29 hi hz0 hz1 hz2 rfl (by decide) _ _ _ rfl ho3 (f m).cells _ _ rfl rfl (by simp [Value.oneCell', W9.cells]) (by omega) (by decide) hsz3 rfl (by simp) ?_; intro g' cap' w4 ho4 hg4 hr4; have hk5 := kept_grown Hb03.out hg4 hr4; clear ho3 hg4))
        go_roundw
        case rel => exact ⟨t + 1, g', cap', by omega, by go_num, rfl, by rw [Hs.out, wlCells_app, wlCells_one1]; exact ho4, hk5⟩
        case measure => simp [intOf]; omega
      · obtain rfl : t = ws.length := by omega
        rw [show (ws.map f).take ws.length = ws.map f from List.take_of_length_le (by simp)] at ho
        have hbs := hb.size
        have hrd := owns_reads ho
        have hsm : ∀ y ∈ ws.map f, y.c.smallB 1000000 = true := fun y hy => by
          obtain ⟨x, hx, rfl⟩ := List.mem_map.1 hy
          exact Hf.out x (Hok.out x hx)
        have Hsm := hide hsm
        clear hsm ho
        have hrd2 : Reads wr 9 (.slice (some ⟨g, 0, none⟩) ws.length cap) (ws.map f).length (wlCells (ws.map f)) := by rw [List.length_map]; exact hrd
        have Hrd := hide hrd2
        clear hrd hrd2 hc
        go_wp2_with fail
        refine (tidied_ok _ (ws.map f) _ Hrd.out (by rw [List.length_map]; omega) Hsm.out).mono ?_
        rintro e w2 ⟨v2, rfl, hh, hb2⟩
        go_wp2_with fail
        go_ret2
        exact ⟨v2, by rw [Hfin.out]; rfl, by rw [Hfin.out]; exact has_base hh hbs, kept_trans hb hb2⟩

theorem tidyImpl_ok (v : Value) (ws : List W9) (w : World) (hr : Reads w 9 v ws.length (wlCells ws)) (hn : ws.length ≤ 1048576) :
    Calls Try.prog 30 #[v] w (WlPost (tidyDes ws) w) := by
  have eg : ∀ args w, (callFunc 44 args).run Try.prog w = .ok (.enter 44 args) w := enters_of Try.func44 (by kernel_rfl) rfl
  have hc := changed_ok 44 #[] id eg v ws w hr hn (fun x W _ _ => by simpa using same_ok x W) (fun x hx => (okB_t hx).2.2)
  have e : changeRes id ws = tidyDes ws := by simp [changeRes, tidyDes]
  rw [e] at hc
  clear hr eg
  go_enter Try.func30, Try.ntmps30
  go_wp2_with fail
  refine hc.mono ?_
  rintro e w2 ⟨v2, rfl, hh, hb2⟩
  clear hc
  go_wp2_with fail
  go_ret2
  exact ⟨v2, rfl, hh, hb2⟩

end Go.Proofs.Ytodjmmdfgjkhiaa
