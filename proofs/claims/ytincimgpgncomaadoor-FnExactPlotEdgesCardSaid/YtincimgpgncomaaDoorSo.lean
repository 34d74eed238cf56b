/-
  The program's strings.Split at a space; the deferred closure of stepsOf.
-/
import Derived.Test.YtincimgpgncomaaDoorUnt
import Derived.Shelf.Strings.Split
import Derived.Recover
namespace Go.Proofs.YtincimgpgncomaaDoor
open Go.RowKit Go.Shelf

def Tryd.lays146_ren : Go.Shelf.Ren := ⟨fun | 146 => 44 | 221 => 58 | 268 => 75 | 138 => 76 | 143 => 77 | 195 => 87 | 197 => 88 | 218 => 89 | 219 => 90 | 260 => 95 | 217 => 79 | 225 => 96 | 224 => 97 | 267 => 98 | 266 => 91 | 314 => 99 | n => n, fun | 9 => 9 | 31 => 43 | 3 => 3 | 4 => 4 | 0 => 0 | 105 => 110 | 21 => 21 | 5 => 5 | 46 => 104 | 119 => 118 | 139 => 121 | 138 => 120 | 146 => 113 | 51 => 112 | n => n, fun | 1 => 0 | 3 => 1 | 4 => 2 | n => n⟩
theorem Tryd.lays146 : Go.Proofs.Lays.n146 Tryd.prog Tryd.lays146_ren := {
  mixed := by kernel_rfl
  f138 := Tryd.func76.trans (congrArg some (by kernel_rfl))
  f143 := Tryd.func77.trans (congrArg some (by kernel_rfl))
  f146 := Tryd.func44.trans (congrArg some (by kernel_rfl))
  f195 := Tryd.func87.trans (congrArg some (by kernel_rfl))
  f197 := Tryd.func88.trans (congrArg some (by kernel_rfl))
  f217 := Tryd.func79.trans (congrArg some (by kernel_rfl))
  f218 := Tryd.func89.trans (congrArg some (by kernel_rfl))
  f219 := Tryd.func90.trans (congrArg some (by kernel_rfl))
  f221 := Tryd.func58.trans (congrArg some (by kernel_rfl))
  f224 := Tryd.func97.trans (congrArg some (by kernel_rfl))
  f225 := Tryd.func96.trans (congrArg some (by kernel_rfl))
  f260 := Tryd.func95.trans (congrArg some (by kernel_rfl))
  f266 := Tryd.func91.trans (congrArg some (by kernel_rfl))
  f267 := Tryd.func98.trans (congrArg some (by kernel_rfl))
  f268 := Tryd.func75.trans (congrArg some (by kernel_rfl))
  f314 := Tryd.func99.trans (congrArg some (by kernel_rfl))
  t0 := Tryd.underlying0
  a0 := Tryd.isAgg0
  z0 := Tryd.sizeOf0
  v0 := Tryd.zeroValue0
  t3 := Tryd.underlying3
  a3 := Tryd.isAgg3
  z3 := Tryd.sizeOf3
  v3 := Tryd.zeroValue3
  t4 := Tryd.underlying4
  a4 := Tryd.isAgg4
  z4 := Tryd.sizeOf4
  v4 := Tryd.zeroValue4
  t5 := Tryd.underlying5
  a5 := Tryd.isAgg5
  z5 := Tryd.sizeOf5
  v5 := Tryd.zeroValue5
  t9 := Tryd.underlying9
  a9 := Tryd.isAgg9
  z9 := Tryd.sizeOf9
  v9 := Tryd.zeroValue9
  t21 := Tryd.underlying21
  a21 := Tryd.isAgg21
  z21 := Tryd.sizeOf21
  v21 := Tryd.zeroValue21
  t31 := Tryd.underlying43
  a31 := Tryd.isAgg43
  z31 := Tryd.sizeOf43
  v31 := Tryd.zeroValue43
  t46 := Tryd.underlying104
  a46 := Tryd.isAgg104
  z46 := Tryd.sizeOf104
  v46 := Tryd.zeroValue104
  t51 := Tryd.underlying112
  a51 := Tryd.isAgg112
  z51 := Tryd.sizeOf112
  v51 := Tryd.zeroValue112
  t105 := Tryd.underlying110
  a105 := Tryd.isAgg110
  z105 := Tryd.sizeOf110
  v105 := Tryd.zeroValue110
  t119 := Tryd.underlying118
  a119 := Tryd.isAgg118
  z119 := Tryd.sizeOf118
  t138 := Tryd.underlying120
  a138 := Tryd.isAgg120
  z138 := Tryd.sizeOf120
  v138 := Tryd.zeroValue120
  t139 := Tryd.underlying121
  a139 := Tryd.isAgg121
  z139 := Tryd.sizeOf121
  v139 := Tryd.zeroValue121
  t146 := Tryd.underlying113
  a146 := Tryd.isAgg113
  z146 := Tryd.sizeOf113
  v146 := Tryd.zeroValue113
  g1 := by kernel_rfl
  g3 := by kernel_rfl
  g4 := by kernel_rfl }

theorem splitK_words (s : List UInt8) : Lib.splitK [32] 0 (Lib.count s [32]) s = wordsL s := by
  induction s with
  | nil =>
    rw [Lib.count_one]
    rfl
  | cons b l ih =>
    by_cases hb : b = 32
    · subst hb
      rw [Lib.count_cons_eq, Nat.add_comm, Lib.splitK, Lib.index_one]
      rw [show wordsL (32 :: l) = [] :: wordsL l from by simp [wordsL], ← ih]
      simp [Lib.indexByte]
    · rw [Lib.count_cons_ne b 32 l hb]
      have hw : ∀ h t, wordsL l = h :: t → wordsL (b :: l) = (b :: h) :: t := fun h t e => by
        rw [wordsL, if_neg hb, e]
      cases hk : Lib.count l [32] with
      | zero =>
        rw [hk] at ih
        rw [hw l [] ih.symm]
        rfl
      | succ n =>
        obtain ⟨j, hj⟩ : ∃ j : Nat, Lib.index l [32] = j := by
          have hge := Lib.index_ge l [32]
          have hne : ¬ Lib.index l [32] = -1 := fun h => by rw [Lib.count_miss h] at hk; omega
          exact ⟨(Lib.index l [32]).toNat, by omega⟩
        have hj1 : Lib.index (b :: l) [32] = ((j + 1 : Nat) : Int) := by
          rw [Lib.index_one] at hj ⊢
          rw [Lib.indexByte, if_neg (by simpa using hb), hj, if_neg (by simp)]
          omega
        rw [hk, Lib.splitK, if_neg (by rw [hj]; simp), hj] at ih
        rw [Lib.splitK, if_neg (by rw [hj1]; simp; omega), hj1]
        have := hw _ _ ih.symm
        rw [this]
        simp

theorem index1 (s : ByteArray) (c : UInt8) : Lib.indexB s ⟨#[c]⟩ = Lib.indexByte s.data.toList c := Lib.index_one s.data.toList c

theorem Tryd.info9 : (Tryd.prog.info? (Tryd.lays146_ren.t 9)).map (fun i => (i.zero, i.size, i.bytes)) = some (some (.string ByteArray.empty), 1, 16) := by kernel_rfl

theorem gen_ok (s : ByteArray) (w : World) (hs : s.size ≤ 1000000) :
    Calls Tryd.prog 58 #[.string s, .string ⟨#[32]⟩, .int .i64 0, .int .i64 (-1)] w fun e w' =>
      e = .returned (.slice (some ⟨w.heap.size, 0, none⟩) (wordsB s).length (wordsB s).length) ∧ w' = w.alloc (.cells (strs (wordsB s)).toArray 9) := by
  have h1 : 1 ≤ (⟨#[32]⟩ : ByteArray).size := Nat.le_refl 1
  have hle := Lib.countB_le ⟨#[32]⟩ h1 s.size s (Nat.le_refl _)
  have hlen := Lib.splitB_all ⟨#[32]⟩ h1 0 _ s rfl
  have hcount : Calls Tryd.prog (Tryd.lays146_ren.f 138) #[.string s, .string ⟨#[32]⟩] w fun e w' => e = .returned (.int .i64 (Lib.countB s ⟨#[32]⟩)) ∧ w' = w := by
    refine (Any.strings_Count_one { Tryd.lays146 with } s 32 w).mono fun e w' ⟨he, hw⟩ => ⟨?_, hw⟩
    rw [he]
    show _ = Ending.returned (Value.int .i64 ((Lib.count s.data.toList [32] : Nat) : Int))
    rw [Lib.count_one]
    rfl
  have c := Any.strings_genSplit_core { Tryd.lays146 with } Tryd.info9 s ⟨#[32]⟩ 0 (-1) (Lib.countB s ⟨#[32]⟩ + 1) w (by omega) h1 (Nat.zero_le _)
    (fun x c hx => by rw [index1]; exact Any.strings_Index_one { Tryd.lays146 with } x 32 _) hcount (by decide) (by decide) (by rw [if_pos (by decide)]; omega)
  rw [Nat.add_sub_cancel, hlen] at c
  have e2 : Lib.cellsOf (Lib.splitB ⟨#[32]⟩ 0 (Lib.countB s ⟨#[32]⟩) s) (Lib.countB s ⟨#[32]⟩ + 1) = ((Lib.splitB ⟨#[32]⟩ 0 (Lib.countB s ⟨#[32]⟩) s).map Value.string).toArray := by rw [← hlen]; exact Lib.cellsOf_full _
  have e3 : Lib.splitB ⟨#[32]⟩ 0 (Lib.countB s ⟨#[32]⟩) s = wordsB s := words_of ((Lib.splitB_data _ 0 _ s).trans (splitK_words s.data.toList))
  rw [e2] at c
  rw [e3] at c hlen
  rw [← hlen] at c
  exact c

set_option maxHeartbeats 1000000 in
theorem split_ok (s : ByteArray) (w : World) (hs : s.size ≤ 1000000) :
    Calls Tryd.prog 44 #[.string s, .string ⟨#[32]⟩] w fun e w' =>
      e = .returned (.slice (some ⟨w.heap.size, 0, none⟩) (wordsB s).length (wordsB s).length) ∧ w' = w.alloc (.cells (strs (wordsB s)).toArray 9) := by
  have hg := gen_ok s w hs
  generalize wordsB s = ws at *
  go_enter Tryd.func44, Tryd.ntmps44
  go_wp2_with fail
  refine hg.mono ?_
  rintro e w1 ⟨rfl, rfl⟩
  go_wp2_with fail
  go_ret
  exact ⟨rfl, rfl⟩

theorem assert_prog (v : Value) (w : World) : (Instr.typeAssert (.iface 70 v) 20 70 true).run Tryd.prog w = .ok (.tuple #[v, .bool true]) w := by kernel_rfl

set_option maxRecDepth 100000 in
set_option maxHeartbeats 1000000 in
theorem stop_panicking (p q : Addr) (x y : Value) (older : List PanicEntry) (w : World) (hpq : p ≠ q) (h1 : w.cell? p = some x) (h2 : w.cell? q = some y) (z1 : w.frozen? p = false) (z2 : w.frozen? q = false) :
    CallsD Tryd.prog 52 #[.pointer (some p), .pointer (some q)] (.panicking ({ v := noProgV, recovered := false } :: older)) w fun e u' w' =>
      e = .returned (.tuple #[]) ∧ u' = .panicking ({ v := noProgV, recovered := true } :: older) ∧ w' = ((w.alloc (.cells #[] 70)).setCell p (.string ⟨#[]⟩)).setCell q (.bool false) := by
  refine callsD_of_wpS Tryd.func52 rfl fun c₀ cs hu => ?_
  apply wpS_seq
  apply wpS_region
  simp [wpOpsS, go_sem, recoverD, hu, Tryd.ntmps52, Exit.thenS, noProgV]
  refine wpS_of_wp ?_
  have ha := assert_prog
  have b1 := World.block_lt_of_cell? w p h1
  have b2 := World.block_lt_of_cell? w q h2
  have k1 := (World.cell?_alloc_old w (.cells #[] 70) p (Nat.ne_of_lt b1)).trans h1
  have f1 := (World.frozen?_alloc_old w (.cells #[] 70) p (Nat.ne_of_lt b1)).trans z1
  have k2 := (World.cell?_alloc_old w (.cells #[] 70) q (Nat.ne_of_lt b2)).trans h2
  have f2 := (World.frozen?_alloc_old w (.cells #[] 70) q (Nat.ne_of_lt b2)).trans z2
  go_wp2_with fail
  simp [bodyPostS, results, Tryd.results52]

theorem stop_idle (p q : Addr) (w : World) :
    CallsD Tryd.prog 52 #[.pointer (some p), .pointer (some q)] .returning w fun e u' w' => e = .returned (.tuple #[]) ∧ u' = .returning ∧ w' = w := by
  refine callsD_of_wpS Tryd.func52 rfl fun c₀ cs hu => ?_
  apply wpS_seq
  apply wpS_region
  simp [wpOpsS, go_sem, recoverD, hu, Tryd.ntmps52, Exit.thenS]
  refine wpS_of_wp ?_
  go_wp2_with fail
  cases c₀
  simp_all [bodyPostS, results, Tryd.results52]

/-- The steps of a program, or none. -/
def stepsV (r : Option (List UInt8)) : Value := match r with
  | none => .tuple #[.string ⟨#[]⟩, .bool false]
  | some o => .tuple #[.string ⟨o.toArray⟩, .bool true]

theorem progB_empty {s : ByteArray} (h : s.size = 0) : progB s = none := by
  obtain ⟨⟨l⟩⟩ := s
  have h : l.length = 0 := h
  obtain rfl := List.eq_nil_of_length_eq_zero h
  rfl

/-- The two results in their variables, at blocks n and n + 1. -/
def Vars (n : Nat) (x y : Value) (w : World) : Prop :=
  w.cell? ⟨n, 0, none⟩ = some x ∧ w.cell? ⟨n + 1, 0, none⟩ = some y ∧ w.frozen? ⟨n, 0, none⟩ = false ∧ w.frozen? ⟨n + 1, 0, none⟩ = false

theorem vars_new (w : World) (x y : Value) (S T : TypeId) : Vars w.heap.size x y ((w.alloc (.cells #[x] S)).alloc (.cells #[y] T)) := by
  refine ⟨?_, ?_, ?_, ?_⟩ <;> simp [go_sem]

theorem vars_alloc {n : Nat} {x y : Value} {w : World} (h : Vars n x y w) (o : Obj) : Vars n x y (w.alloc o) := by
  obtain ⟨c1, c2, z1, z2⟩ := h
  have b1 := World.block_lt_of_cell? w _ c1
  have b2 := World.block_lt_of_cell? w _ c2
  exact ⟨(World.cell?_alloc_old w o _ (Nat.ne_of_lt b1)).trans c1, (World.cell?_alloc_old w o _ (Nat.ne_of_lt b2)).trans c2,
    (World.frozen?_alloc_old w o _ (Nat.ne_of_lt b1)).trans z1, (World.frozen?_alloc_old w o _ (Nat.ne_of_lt b2)).trans z2⟩

theorem vars_grown {n R : Nat} {x y : Value} {w w' : World} (h : Vars n x y w) (hg : w.grownBy w' (some R)) (h1 : n ≠ R) (h2 : n + 1 ≠ R) : Vars n x y w' := by
  obtain ⟨c1, c2, z1, z2⟩ := h
  have b1 := hg.block n (World.block_lt_of_cell? w _ c1) (by simpa using h1)
  have b2 := hg.block (n + 1) (World.block_lt_of_cell? w _ c2) (by simpa using h2)
  exact ⟨(World.cell?_of_block (w := w) (a := ⟨n, 0, none⟩) b1).trans c1, (World.cell?_of_block (w := w) (a := ⟨n + 1, 0, none⟩) b2).trans c2,
    (World.frozen?_of_block (w := w) (a := ⟨n, 0, none⟩) b1).trans z1, (World.frozen?_of_block (w := w) (a := ⟨n + 1, 0, none⟩) b2).trans z2⟩

theorem vars_set {n : Nat} {x y : Value} {w : World} (h : Vars n x y w) (u v : Value) : Vars n u v ((w.setCell ⟨n, 0, none⟩ u).setCell ⟨n + 1, 0, none⟩ v) := by
  obtain ⟨c1, c2, z1, z2⟩ := h
  have c1' : ((w.setCell ⟨n, 0, none⟩ u).cell? ⟨n, 0, none⟩) = some u := World.cell?_setCell_same _ _ _ c1
  have c2' : ((w.setCell ⟨n, 0, none⟩ u).cell? ⟨n + 1, 0, none⟩) = some y := (World.cell?_setCell_other _ _ _ _ (by simp)).trans c2
  refine ⟨(World.cell?_setCell_other _ _ _ _ (by simp)).trans c1', World.cell?_setCell_same _ _ _ c2', ?_, ?_⟩
  · rw [World.frozen?_setCell, World.frozen?_setCell]; exact z1
  · rw [World.frozen?_setCell, World.frozen?_setCell]; exact z2

set_option maxRecDepth 100000 in
set_option maxHeartbeats 2000000 in
theorem stepsOf_ok (s : ByteArray) (w : World) : Calls Tryd.prog 41 #[.string s] w fun e w' => e = .returned (stepsV (progB s)) ∧ Below w.heap.size w w' := by
  have hmf : ∀ (fn : Fn) (first cap : Array Value) (w : World), (Instr.makeFunc fn first cap).run Tryd.prog w = .ok (.func fn first cap) w := fun _ _ _ _ => rfl
  have hv0 := vars_new w (.string ⟨#[]⟩) (.bool false) 9 4
  have hb0 : Below w.heap.size w ((w.alloc (.cells #[.string ⟨#[]⟩] 9)).alloc (.cells #[.bool false] 4)) := kept_alloc (kept_new w _) _
  have hs0 : ((w.alloc (.cells #[.string ⟨#[]⟩] 9)).alloc (.cells #[.bool false] 4)).heap.size = w.heap.size + 2 := by simp
  by_cases hbig : 400 < s.size
  · have hres : progB s = none := if_pos hbig
    rw [hres]
    have h1 : ¬ (s.size : Int) ≤ 400 := by omega
    go_enter_defers Tryd.func41, Tryd.ntmps41
    go_wp2_with fail
    generalize (w.alloc (.cells #[.string ⟨#[]⟩] 9)).alloc (.cells #[.bool false] 4) = w0 at *
    refine (need_no _).mono ?_
    rintro e w1 ⟨rfl, rfl⟩
    go_wp2_with fail
    refine leaves_cons (f := 52) (args := #[.pointer (some ⟨w.heap.size, 0, none⟩), .pointer (some ⟨w.heap.size + 1, 0, none⟩)]) (by simp) (by simp [go_sem]) ?_
    refine (stop_panicking ⟨w.heap.size, 0, none⟩ ⟨w.heap.size + 1, 0, none⟩ _ _ [] _ (by simp) hv0.1 hv0.2.1 hv0.2.2.1 hv0.2.2.2).mono ?_
    rintro e u' w'' ⟨rfl, rfl, rfl⟩
    have hv1 := vars_set (vars_alloc hv0 (.cells #[] 70)) (.string ⟨#[]⟩) (.bool false)
    have hb1 : Below w.heap.size w (((w0.alloc (.cells #[] 70)).setCell ⟨w.heap.size, 0, none⟩ (.string ⟨#[]⟩)).setCell ⟨w.heap.size + 1, 0, none⟩ (.bool false)) :=
      kept_set (kept_set (kept_alloc hb0 _) (Nat.le_refl _) _) (Nat.le_succ _) _
    generalize ((w0.alloc (.cells #[] 70)).setCell ⟨w.heap.size, 0, none⟩ (.string ⟨#[]⟩)).setCell ⟨w.heap.size + 1, 0, none⟩ (.bool false) = w2 at *
    obtain ⟨k1, k2, _, _⟩ := hv1
    simp [Leaves, settle, results, Tryd.results41, k1, k2, go_sem]
    exact ⟨rfl, hb1⟩
  · have hres : progB s = (flat (wordsB s) false []).map (·.1) := if_neg hbig
    by_cases h0 : s.size = 0
    · rw [progB_empty h0]
      have h1 : (s.size : Int) ≤ 400 := by omega
      obtain rfl : s = ⟨#[]⟩ := by
        obtain ⟨⟨l⟩⟩ := s
        have h0 : l.length = 0 := h0
        obtain rfl := List.eq_nil_of_length_eq_zero h0
        rfl
      clear h1 h0 hbig hres
      go_enter_defers Tryd.func41, Tryd.ntmps41
      go_wp2_with fail
      generalize (w.alloc (.cells #[.string ⟨#[]⟩] 9)).alloc (.cells #[.bool false] 4) = w0 at *
      refine (need_no _).mono ?_
      rintro e w1 ⟨rfl, rfl⟩
      go_wp2_with fail
      refine leaves_cons (f := 52) (args := #[.pointer (some ⟨w.heap.size, 0, none⟩), .pointer (some ⟨w.heap.size + 1, 0, none⟩)]) (by simp) (by simp [go_sem]) ?_
      refine (stop_panicking ⟨w.heap.size, 0, none⟩ ⟨w.heap.size + 1, 0, none⟩ _ _ [] _ (by simp) hv0.1 hv0.2.1 hv0.2.2.1 hv0.2.2.2).mono ?_
      rintro e u' w'' ⟨rfl, rfl, rfl⟩
      have hv1 := vars_set (vars_alloc hv0 (.cells #[] 70)) (.string ⟨#[]⟩) (.bool false)
      have hb1 : Below w.heap.size w (((w0.alloc (.cells #[] 70)).setCell ⟨w.heap.size, 0, none⟩ (.string ⟨#[]⟩)).setCell ⟨w.heap.size + 1, 0, none⟩ (.bool false)) :=
        kept_set (kept_set (kept_alloc hb0 _) (Nat.le_refl _) _) (Nat.le_succ _) _
      generalize ((w0.alloc (.cells #[] 70)).setCell ⟨w.heap.size, 0, none⟩ (.string ⟨#[]⟩)).setCell ⟨w.heap.size + 1, 0, none⟩ (.bool false) = w2 at *
      obtain ⟨k1, k2, _, _⟩ := hv1
      simp [Leaves, settle, results, Tryd.results41, k1, k2, go_sem]
      exact ⟨rfl, hb1⟩
    · have h1 : (s.size : Int) ≤ 400 := by omega
      have hne : (s.toList == []) = false := by
        refine beq_eq_false_iff_ne.2 fun e => h0 ?_
        rw [bytes_list] at e
        have : s.size = s.data.toList.length := rfl
        rw [this, e]; rfl
      obtain ⟨r, hr⟩ : ∃ r, flat (wordsB s) false [] = r := ⟨_, rfl⟩
      rw [hres, hr]
      have Hr := hide hr
      clear hr hres
      have hln : (wordsB s).length ≤ 1000000 := by
        have e2 := wordsL_len s.data.toList
        have e3 : s.data.toList.length = s.size := rfl
        rw [wordsB, List.length_map]; omega
      have hlp : 0 < (wordsB s).length := by
        rw [wordsB, List.length_map]
        exact List.length_pos_iff.2 (wordsL_ne _)
      have hsp := fun w1 => split_ok s w1 (by omega)
      generalize wordsB s = ws at *
      go_enter_defers Tryd.func41, Tryd.ntmps41
      go_wp2_with fail
      generalize (w.alloc (.cells #[.string ⟨#[]⟩] 9)).alloc (.cells #[.bool false] 4) = w0 at *
      refine (need_yes _).mono ?_
      rintro e w1 ⟨rfl, rfl⟩
      go_wp2_with fail
      refine (hsp w0).mono ?_
      rintro e w1 ⟨rfl, rfl⟩
      go_wp2_with fail
      have ho1 := World.ownsRow_lit (base := w.heap.size) (e := 9) (size := 1) w0 (strs ws).toArray ws.length (by omega) (by unfold maxLen; omega) (by simp [strs])
      have hr1 := owns_reads ho1
      have hb1 : Below w.heap.size w (w0.alloc (.cells (strs ws).toArray 9)) := kept_alloc hb0 _
      have hv1 := vars_alloc hv0 (.cells (strs ws).toArray 9)
      have hs1 : (w0.alloc (.cells (strs ws).toArray 9)).heap.size = w.heap.size + 3 := by simp [hs0]
      rw [hs0] at hr1
      clear ho1 hv0 hb0
      generalize w0.alloc (.cells (strs ws).toArray 9) = w1 at *
      have hr2 := reads_kept hr1 (kept_new w1 (.cells #[.slice (some ⟨w.heap.size + 2, 0, none⟩) ws.length ws.length, .int .i64 0] 74))
      have hb2 : Below w.heap.size w (w1.alloc (.cells #[.slice (some ⟨w.heap.size + 2, 0, none⟩) ws.length ws.length, .int .i64 0] 74)) := kept_alloc hb1 _
      have hv2 := vars_alloc hv1 (.cells #[.slice (some ⟨w.heap.size + 2, 0, none⟩) ws.length ws.length, .int .i64 0] 74)
      have hR2 : (w1.alloc (.cells #[.slice (some ⟨w.heap.size + 2, 0, none⟩) ws.length ws.length, .int .i64 0] 74)).heap[w.heap.size + 2 + 1]? = some (.cells #[.slice (some ⟨w.heap.size + 2, 0, none⟩) ws.length ws.length, .int .i64 0] 74 (0, 0)) := by
        have := heap_alloc_new w1 (.cells #[.slice (some ⟨w.heap.size + 2, 0, none⟩) ws.length ws.length, .int .i64 0] 74)
        rw [hs1] at this
        exact this
      clear hr1 hv1 hb1
      generalize w1.alloc (.cells #[.slice (some ⟨w.heap.size + 2, 0, none⟩) ws.length ws.length, .int .i64 0] 74) = w2 at *
      have hu := until_ok ws.length ws (.slice (some ⟨w.heap.size + 2, 0, none⟩) ws.length ws.length) (w.heap.size + 2 + 1) 0 false w2 (by omega) (by omega) hln (fun _ => hlp) (by simpa [strs] using hr2) (by simp [Value.ownBlock]) hR2
      rw [List.drop_zero, Hr.out] at hu
      have hout : ∀ o rest, r = some (o, rest) → rest = [] := fun o rest h => flatN_out _ _ _ _ _ (Hr.out.trans h)
      clear Hr hr2 hR2
      unfold UntilPost at hu
      refine hu.mono ?_
      cases r with
      | none =>
        rintro e w3 ⟨hg3, rfl⟩
        have hv3 := vars_grown hv2 hg3 (by omega) (by omega)
        have hb3 : Below w.heap.size w w3 := kept_grown hb2 hg3 (fun k hk => by cases hk; omega)
        clear hu hv2 hb2 hg3
        go_wp2_with fail
        refine leaves_cons (f := 52) (args := #[.pointer (some ⟨w.heap.size, 0, none⟩), .pointer (some ⟨w.heap.size + 1, 0, none⟩)]) (by simp) (by simp [go_sem]) ?_
        refine (stop_panicking ⟨w.heap.size, 0, none⟩ ⟨w.heap.size + 1, 0, none⟩ _ _ [] _ (by simp) hv3.1 hv3.2.1 hv3.2.2.1 hv3.2.2.2).mono ?_
        rintro e u' w'' ⟨rfl, rfl, rfl⟩
        have hv4 := vars_set (vars_alloc hv3 (.cells #[] 70)) (.string ⟨#[]⟩) (.bool false)
        have hb4 : Below w.heap.size w (((w3.alloc (.cells #[] 70)).setCell ⟨w.heap.size, 0, none⟩ (.string ⟨#[]⟩)).setCell ⟨w.heap.size + 1, 0, none⟩ (.bool false)) :=
          kept_set (kept_set (kept_alloc hb3 _) (Nat.le_refl _) _) (Nat.le_succ _) _
        generalize ((w3.alloc (.cells #[] 70)).setCell ⟨w.heap.size, 0, none⟩ (.string ⟨#[]⟩)).setCell ⟨w.heap.size + 1, 0, none⟩ (.bool false) = w4 at *
        obtain ⟨k1, k2, _, _⟩ := hv4
        simp [Leaves, settle, results, Tryd.results41, k1, k2, go_sem]
        exact ⟨rfl, hb4⟩
      | some r =>
        obtain ⟨o, rest⟩ := r
        obtain rfl := hout o rest rfl
        rintro e w3 ⟨hg3, rfl, _⟩
        have hv3 := vars_grown hv2 hg3 (by omega) (by omega)
        have hb3 : Below w.heap.size w w3 := kept_grown hb2 hg3 (fun k hk => by cases hk; omega)
        clear hu hv2 hb2 hg3 hout
        obtain ⟨c1, c2, z1, z2⟩ := hv3
        have c2' : ((w3.setCell ⟨w.heap.size, 0, none⟩ (.string ⟨o.toArray⟩)).cell? ⟨w.heap.size + 1, 0, none⟩) = some (.bool false) := (World.cell?_setCell_other _ _ _ _ (by simp)).trans c2
        go_wp2_with fail
        have hv4 := vars_set ⟨c1, c2, z1, z2⟩ (.string ⟨o.toArray⟩) (.bool true)
        have hb4 : Below w.heap.size w ((w3.setCell ⟨w.heap.size, 0, none⟩ (.string ⟨o.toArray⟩)).setCell ⟨w.heap.size + 1, 0, none⟩ (.bool true)) :=
          kept_set (kept_set hb3 (Nat.le_refl _) _) (Nat.le_succ _) _
        clear c1 c2 z1 z2 c2' hb3
        generalize (w3.setCell ⟨w.heap.size, 0, none⟩ (.string ⟨o.toArray⟩)).setCell ⟨w.heap.size + 1, 0, none⟩ (.bool true) = w4 at *
        obtain ⟨k1, k2, _, _⟩ := hv4
        refine leaves_cons (f := 52) (args := #[.pointer (some ⟨w.heap.size, 0, none⟩), .pointer (some ⟨w.heap.size + 1, 0, none⟩)]) (by simp) (by simp [go_sem]) ?_
        refine (stop_idle ⟨w.heap.size, 0, none⟩ ⟨w.heap.size + 1, 0, none⟩ _).mono ?_
        rintro e u' w'' ⟨rfl, rfl, rfl⟩
        simp [Leaves, settle, results, Tryd.results41, k1, k2, go_sem]
        exact ⟨rfl, hb4⟩

end Go.Proofs.YtincimgpgncomaaDoor
