/-
  PlotFlat, both sides.
-/
import Derived.Test.YtincimgpgncomaaDoorPv
import Derived.Shelf.Strings.OnBuilder
import Derived.Shelf.Strings.Explode
namespace Go.Proofs.YtincimgpgncomaaDoor
open Go.RowKit Go.Shelf

def Tryd.lays156_ren : Go.Shelf.Ren := ⟨fun | 156 => 43 | 165 => 55 | 166 => 56 | 169 => 57 | 240 => 73 | 241 => 74 | 276 => 85 | 277 => 86 | n => n, fun | 31 => 43 | 9 => 9 | 3 => 3 | 4 => 4 | 0 => 0 | 20 => 20 | 72 => 78 | 76 => 82 | 70 => 76 | 37 => 26 | 75 => 81 | 127 => 97 | 164 => 107 | 5 => 5 | 80 => 84 | n => n, fun | n => n⟩
theorem Tryd.lays156 : Go.Proofs.Lays.n156 Tryd.prog Tryd.lays156_ren := {
  mixed := by kernel_rfl
  f156 := Tryd.func43.trans (congrArg some (by kernel_rfl))
  f165 := Tryd.func55.trans (congrArg some (by kernel_rfl))
  f166 := Tryd.func56.trans (congrArg some (by kernel_rfl))
  f169 := Tryd.func57.trans (congrArg some (by kernel_rfl))
  f240 := Tryd.func73.trans (congrArg some (by kernel_rfl))
  f241 := Tryd.func74.trans (congrArg some (by kernel_rfl))
  f276 := Tryd.func85.trans (congrArg some (by kernel_rfl))
  f277 := Tryd.func86.trans (congrArg some (by kernel_rfl))
  t0 := Tryd.underlying0
  a0 := Tryd.isAgg0
  z0 := Tryd.sizeOf0
  v0 := Tryd.zeroValue0
  t3 := Tryd.underlying3
  a3 := Tryd.isAgg3
  z3 := Tryd.sizeOf3
  v3 := Tryd.zeroValue3
  t4 := Tryd.underlying4
  a4 := Tryd.isAgg4
  z4 := Tryd.sizeOf4
  v4 := Tryd.zeroValue4
  t9 := Tryd.underlying9
  a9 := Tryd.isAgg9
  z9 := Tryd.sizeOf9
  v9 := Tryd.zeroValue9
  t20 := Tryd.underlying20
  a20 := Tryd.isAgg20
  z20 := Tryd.sizeOf20
  v20 := Tryd.zeroValue20
  t31 := Tryd.underlying43
  a31 := Tryd.isAgg43
  z31 := Tryd.sizeOf43
  v31 := Tryd.zeroValue43
  t37 := Tryd.underlying26
  a37 := Tryd.isAgg26
  z37 := Tryd.sizeOf26
  v37 := Tryd.zeroValue26
  t70 := Tryd.underlying76
  a70 := Tryd.isAgg76
  z70 := Tryd.sizeOf76
  v70 := Tryd.zeroValue76
  t72 := Tryd.underlying78
  a72 := Tryd.isAgg78
  z72 := Tryd.sizeOf78
  v72 := Tryd.zeroValue78
  t75 := Tryd.underlying81
  a75 := Tryd.isAgg81
  z75 := Tryd.sizeOf81
  v75 := Tryd.zeroValue81
  t76 := Tryd.underlying82
  a76 := Tryd.isAgg82
  z76 := Tryd.sizeOf82
  v76 := Tryd.zeroValue82
  t127 := Tryd.underlying97
  a127 := Tryd.isAgg97
  z127 := Tryd.sizeOf97
  v127 := Tryd.zeroValue97
  t164 := Tryd.underlying107
  a164 := Tryd.isAgg107
  z164 := Tryd.sizeOf107
  v164 := Tryd.zeroValue107 }

theorem Tryd.extra156 : Builder.Extra Tryd.prog Tryd.lays156_ren := {
  sizeBuilder := by kernel_rfl
  liesBuilder := by kernel_rfl
  t5 := Tryd.underlying5
  a5 := Tryd.isAgg5
  z5 := Tryd.sizeOf5
  v5 := Tryd.zeroValue5
  infoByte := by kernel_rfl
  cellsByte := by kernel_rfl
  sizeByte := by kernel_rfl
  neB5 := by decide }

/-- The steps, with spaces between. -/
def joinB : List UInt8 → List UInt8
  | [] => []
  | b :: l => b :: (l.map fun c => [32, c]).flatten

theorem joinB_lib (o : List UInt8) : Lib.join (o.map fun b => [b]) [32] = joinB o := by
  cases o with
  | nil => rfl
  | cons b l =>
    rw [List.map_cons, Lib.join_cons, Lib.joinTail, List.map_map]
    rfl

theorem joinB_snoc (o : List UInt8) (c : UInt8) (h : o ≠ []) : joinB (o ++ [c]) = joinB o ++ [32] ++ [c] := by
  cases o with
  | nil => exact absurd rfl h
  | cons b l => simp [joinB]

theorem joinB_len (o : List UInt8) : (joinB o).length ≤ 2 * o.length := by
  cases o with
  | nil => simp [joinB]
  | cons b l =>
    have : ∀ l : List UInt8, ((l.map fun c => [32, c]).flatten).length = 2 * l.length := by
      intro l
      induction l with
      | nil => rfl
      | cons c l ih => simp only [List.map_cons, List.flatten_cons, List.length_append, ih, List.length_cons, List.length_nil]; omega
    simp only [joinB, List.length_cons, this]
    omega

set_option maxRecDepth 100000 in
set_option maxHeartbeats 2000000 in
theorem l12Join_ok (v : Value) (o : List UInt8) (w : World) (hr : Reads w 1 v o.length (ones o)) (hl : o.length ≤ 10000) :
    Calls Tryd.prog 42 #[v] w fun e w' => e = .returned (.string ⟨(joinB o).toArray⟩) ∧ w = w' := by
  obtain ⟨_, hm, A, c, rfl, hc⟩ := hr
  have Hc := hide hc
  clear hc
  go_enter Tryd.func42, Tryd.ntmps42
  go_wp2_with fail
  go_loop [3, 4] (fun v i => ∃ (t : Nat) (acc : ByteArray), t ≤ o.length ∧ i = .int .i64 t ∧ v = .string acc ∧ acc.data.toList = joinB (o.take t)) (fun _ i => o.length - (intOf i).toNat)
  case atStart => exact ⟨0, ⟨#[]⟩, by omega, rfl, rfl, rfl⟩
  case round =>
    obtain ⟨t, acc, ht, rfl, rfl, hacc⟩ := hrel
    by_cases hlt : t < o.length
    · have hlt' : (t : Int) < (o.length : Int) := by omega
      obtain ⟨bk, of, rfl, hbl, hcell⟩ := Hc.out (by omega) (by omega)
      have h1 := (hcell t (by omega)).trans (show (ones o)[t]? = some (.string ⟨#[o[t]]⟩) by simp [ones, hlt])
      clear hcell
      have htk : o.take (t + 1) = o.take t ++ [o[t]] := List.take_succ_eq_append_getElem hlt
      have hsz : acc.size ≤ 20000 := by
        have e1 : acc.size = acc.data.toList.length := rfl
        have e2 := joinB_len (o.take t)
        rw [e1, hacc]
        rw [List.length_take] at e2
        omega
      have s1 : ¬ 9223372036854775807 < acc.size + 1 := by omega
      have s2 : ¬ 9223372036854775807 < acc.size + 1 + 1 := by omega
      by_cases h0 : t = 0
      · subst h0
        have h1 : w.cell? ⟨bk, of, none⟩ = some (.string ⟨#[o[0]]⟩) := h1
        have hz : acc.data.toList = [] := hacc
        have Htk := hide htk
        clear hacc htk hsz
        go_wp2_with fail
        go_round
        case rel => exact ⟨1, _, by omega, by go_num, rfl, by rw [Htk.out]; simp [hz, joinB]⟩
        case measure => simp [intOf]; omega
      · have h0' : (t : Int) > 0 := by omega
        have Hacc := hide hacc
        have Htk := hide htk
        clear hacc htk hsz
        go_wp2_with fail
        go_round
        case rel => exact ⟨t + 1, _, by omega, by go_num, rfl, by
          rw [Htk.out, joinB_snoc _ _ (fun e => by have e1 := congrArg List.length e; rw [List.length_take, List.length_nil] at e1; omega), ← Hacc.out]; simp⟩
        case measure => simp [intOf]; omega
    · obtain rfl : t = o.length := by omega
      have h1' : ¬ (o.length : Int) < (o.length : Int) := by omega
      rw [List.take_length] at hacc
      have he : acc = ⟨(joinB o).toArray⟩ := by
        obtain ⟨⟨l⟩⟩ := acc
        rw [← hacc]
      clear hacc
      go_wp2_with fail
      go_ret
      exact ⟨rfl, rfl⟩

/-- The program with all steps written, or none. -/
def flatV (r : Option (List UInt8)) : Value := match r with
  | none => .tuple #[.string ⟨#[]⟩, .bool false]
  | some o => if 400 < (joinB o).length then .tuple #[.string ⟨#[]⟩, .bool false] else .tuple #[.string ⟨(joinB o).toArray⟩, .bool true]

set_option maxHeartbeats 1000000 in
theorem flatSpec_ok (s : ByteArray) (w : World) : Calls Tryd.prog 19 #[.string s] w fun e w' => e = .returned (flatV (progB s)) ∧ Below w.heap.size w w' := by
  have hp := l12Program_ok s w
  generalize progB s = r at hp ⊢
  unfold ProgPost at hp
  have Hp := hide hp
  clear hp
  go_enter Tryd.func19, Tryd.ntmps19
  go_wp2_with fail
  refine Hp.out.mono ?_
  rintro e w1 ⟨g, cap, o, ok, rfl, ho, hl, hb, hr⟩
  go_wp2_with fail
  refine (l12Join_ok _ o _ (owns_reads ho) hl).mono ?_
  rintro e w2 ⟨rfl, rfl⟩
  cases r with
  | none =>
    obtain rfl := hr
    go_wp2_with fail
    go_ret2
    exact ⟨rfl, hb⟩
  | some r =>
    obtain ⟨rfl, rfl⟩ := hr
    by_cases h4 : 400 < (joinB o).length
    · have h4' : ((joinB o).length : Int) > 400 := by omega
      go_wp2_with fail
      go_ret2
      exact ⟨by simp only [flatV, if_pos h4]; rfl, hb⟩
    · have h4' : ¬ ((joinB o).length : Int) > 400 := by omega
      go_wp2_with fail
      go_ret2
      exact ⟨by simp only [flatV, if_neg h4]; rfl, hb⟩

theorem chars_ones (o : List UInt8) : (Lib.charsB ⟨o.toArray⟩).map Value.string = ones o := by
  have h := Lib.chars_data ⟨o.toArray⟩
  have e : (Lib.charsB ⟨o.toArray⟩) = o.map fun b => (⟨#[b]⟩ : ByteArray) := by
    have h2 := congrArg (List.map fun l : List UInt8 => (⟨l.toArray⟩ : ByteArray)) h
    rw [List.map_map, List.map_map] at h2
    have e1 : (Lib.charsB ⟨o.toArray⟩).map ((fun l : List UInt8 => (⟨l.toArray⟩ : ByteArray)) ∘ fun x => x.data.toList) = Lib.charsB ⟨o.toArray⟩ := List.map_id' _
    rw [e1] at h2
    rw [h2]
    exact List.map_congr_left fun b _ => rfl
  rw [e, List.map_map]
  rfl

theorem chars_ok (o : List UInt8) (w : World) (ha : ∀ b ∈ o, b.toNat < 128) (hl : o.length ≤ 10000) :
    Calls Tryd.prog 44 #[.string ⟨o.toArray⟩, .string ⟨#[]⟩] w fun e w' => ∃ g, e = .returned (.slice (some ⟨g, 0, none⟩) o.length o.length) ∧ (∀ (j : Nat) x, (o.map fun b => (⟨#[b]⟩ : ByteArray))[j]? = some x → w'.cell? ⟨g, 0 + j, none⟩ = some (.string x)) ∧ g < w'.heap.size ∧ Below w.heap.size w w' := by
  have hsz : (⟨o.toArray⟩ : ByteArray).size = o.length := List.size_toArray
  have h := Any.strings_Split_chars Tryd.lays146 Tryd.info9 ⟨o.toArray⟩ ⟨#[]⟩ w rfl (by rw [hsz]; omega) (fun j b hb => ha b (List.mem_of_getElem? hb))
  rw [hsz, chars_ones] at h
  refine h.mono ?_
  rintro e w' ⟨rfl, rfl⟩
  refine ⟨(w.iter ⟨o.toArray⟩ o.length).heap.size, rfl, fun j x hx => ?_, (Array.getElem?_eq_some_iff.1 (heap_alloc_new _ _)).1, kept_alloc (kept_new w (.stringIter _ _)) _⟩
  rw [Nat.zero_add, Lib.cell_of_heap (heap_alloc_new _ _)]
  rw [List.getElem?_toArray, ones, List.getElem?_map]
  rw [List.getElem?_map] at hx
  cases hj : o[j]? with
  | none => rw [hj] at hx; cases hx
  | some b => rw [hj] at hx; cases hx; rfl

theorem join_ok (g : Nat) (o : List UInt8) (w : World) (hc : ∀ (j : Nat) x, (o.map fun b => (⟨#[b]⟩ : ByteArray))[j]? = some x → w.cell? ⟨g, 0 + j, none⟩ = some (.string x)) (hg : g < w.heap.size) (hl : o.length ≤ 10000) :
    Calls Tryd.prog 43 #[.slice (some ⟨g, 0, none⟩) o.length o.length, .string ⟨#[32]⟩] w fun e w' => e = .returned (.string ⟨(joinB o).toArray⟩) ∧ Below w.heap.size w w' := by
  have e1 : ((o.map fun b => (⟨#[b]⟩ : ByteArray)).map (·.data.toList)) = o.map fun b => [b] := by rw [List.map_map]; rfl
  have e2 : Lib.join ((o.map fun b => (⟨#[b]⟩ : ByteArray)).map (·.data.toList)) (⟨#[32]⟩ : ByteArray).data.toList = joinB o := by rw [e1]; exact joinB_lib o
  have hln := joinB_len o
  have h := Any.strings_Join Tryd.lays156 Tryd.extra156 g 0 o.length (o.map fun b => (⟨#[b]⟩ : ByteArray)) ⟨#[32]⟩ w hc hg (by simp; omega) (by simp) (by rw [e2]; omega)
  rw [e2, List.length_map] at h
  exact h

theorem step_ascii {b : UInt8} (h : isStepB b) : b.toNat < 128 := by
  rcases h with rfl | rfl | rfl | rfl | rfl | rfl | rfl <;> decide

set_option maxHeartbeats 1000000 in
theorem flatImpl_ok (s : ByteArray) (w : World) : Calls Tryd.prog 20 #[.string s] w fun e w' => e = .returned (flatV (progB s)) ∧ Below w.heap.size w w' := by
  have hp := stepsOf_ok s w
  have hst : ∀ o, progB s = some o → ∀ b ∈ o, b.toNat < 128 := fun o h b hb => step_ascii (progB_steps h b hb)
  have hln : ∀ o, progB s = some o → o.length ≤ 500 := fun o h => progB_len h
  unfold stepsV at hp
  generalize progB s = r at hp hst hln ⊢
  cases r with
  | none =>
    dsimp only at hp
    have Hp := hide hp
    clear hp hst hln
    have hch := fun w => chars_ok [] w (by simp) (by simp)
    have hjn := fun g w hc hg => join_ok g [] w hc hg (by simp)
    have Hch := hide hch
    have Hjn := hide hjn
    clear hch hjn
    go_enter Tryd.func20, Tryd.ntmps20
    go_wp2_with fail
    refine Hp.out.mono ?_
    rintro e w1 ⟨rfl, hb1⟩
    go_wp2_with fail
    refine (Hch.out _).mono ?_
    rintro e w2 ⟨g, rfl, hc, hg, hb2⟩
    go_wp2_with fail
    refine (Hjn.out g _ hc hg).mono ?_
    rintro e w3 ⟨rfl, hb3⟩
    go_wp2_with fail
    go_ret2
    exact ⟨rfl, kept_trans (kept_trans hb1 hb2) hb3⟩
  | some o =>
    dsimp only at hp
    have hst := hst o rfl
    have hln := hln o rfl
    have Hp := hide hp
    have hch := fun w => chars_ok o w hst (by omega)
    have hjn := fun g w hc hg => join_ok g o w hc hg (by omega)
    have Hch := hide hch
    have Hjn := hide hjn
    clear hp hch hjn hst
    have hfin : ∀ W, Below w.heap.size w W → (400 < (joinB o).length → flatV (some o) = .tuple #[.string ⟨#[]⟩, .bool false]) ∧ (¬ 400 < (joinB o).length → flatV (some o) = .tuple #[.string ⟨(joinB o).toArray⟩, .bool true]) :=
      fun W _ => ⟨fun h => by simp only [flatV, if_pos h], fun h => by simp only [flatV, if_neg h]⟩
    have Hfin := hide hfin
    clear hfin
    generalize flatV (some o) = fv at *
    by_cases h4 : 400 < (joinB o).length
    · have h4' : ((joinB o).length : Int) > 400 := by omega
      go_enter Tryd.func20, Tryd.ntmps20
      go_wp2_with fail
      refine Hp.out.mono ?_
      rintro e w1 ⟨rfl, hb1⟩
      go_wp2_with fail
      refine (Hch.out _).mono ?_
      rintro e w2 ⟨g, rfl, hc, hg, hb2⟩
      go_wp2_with fail
      refine (Hjn.out g _ hc hg).mono ?_
      rintro e w3 ⟨rfl, hb3⟩
      clear hc
      go_wp2_with fail
      go_ret2
      exact ⟨congrArg Ending.returned ((Hfin.out _ hb1).1 h4).symm, kept_trans (kept_trans hb1 hb2) hb3⟩
    · have h4' : ¬ ((joinB o).length : Int) > 400 := by omega
      go_enter Tryd.func20, Tryd.ntmps20
      go_wp2_with fail
      refine Hp.out.mono ?_
      rintro e w1 ⟨rfl, hb1⟩
      go_wp2_with fail
      refine (Hch.out _).mono ?_
      rintro e w2 ⟨g, rfl, hc, hg, hb2⟩
      go_wp2_with fail
      refine (Hjn.out g _ hc hg).mono ?_
      rintro e w3 ⟨rfl, hb3⟩
      clear hc
      go_wp2_with fail
      go_ret2
      exact ⟨congrArg Ending.returned ((Hfin.out _ hb1).2 h4).symm, kept_trans (kept_trans hb1 hb2) hb3⟩

theorem flatV_form (r : Option (List UInt8)) : ∃ (a : ByteArray) (b : Bool), flatV r = .tuple #[.string a, .bool b] := by
  unfold flatV
  split
  · exact ⟨_, _, rfl⟩
  · split
    · exact ⟨_, _, rfl⟩
    · exact ⟨_, _, rfl⟩

end Go.Proofs.YtincimgpgncomaaDoor
