/-
  The ratio of a train, of the program and of the reference.
-/
import Derived.Test.YtiiocjkhjogfkaaDoorRatio
namespace Go.Proofs.YtiiocjkhjogfkaaDoor
open Go.RowKit

def trainOut (zs : List Int) : (Int × Int) × Bool := match trainRes zs with
  | some p => (p, true)
  | none => ((0, 0), false)

def IIB (x : (Int × Int) × Bool) (w : World) (e : Ending) (w' : World) : Prop := e = .returned (.tuple #[.int .i64 x.1.1, .int .i64 x.1.2, .bool x.2]) ∧ Below w.heap.size w w'
def IB2 (x : (Int × Int) × Bool) (w : World) (e : Ending) (w' : World) : Prop := e = .returned (.tuple #[.int .i64 x.1.2, .bool x.2]) ∧ Below w.heap.size w w'

/-- A slice of ints that reads as zs. -/
def RdI (w : World) (A : Option Addr) (c : Nat) (zs : List Int) : Prop := Reads w 1 (.slice A zs.length c) zs.length (zs.map (Value.int .i64)) ∧ zs.length ≤ c

theorem rdI_kept {w w' : World} {A : Option Addr} {c : Nat} {zs : List Int} (h : RdI w A c zs) (hk : Below w.heap.size w w') : RdI w' A c zs := ⟨reads_kept h.1 hk, h.2⟩

theorem ratio_ok (A : Option Addr) (c : Nat) (zs : List Int) (w : World) (hr : RdI w A c zs) (hn : zs.length ≤ 1048576) :
    Calls Tryd.prog 37 #[.slice A zs.length c] w (RatioPost (trainRes zs) w) := by
  cases hl : lenB zs.length with
  | false =>
    have e : trainRes zs = none := by simp [trainRes, hl]
    rw [e]
    exact ratio_len A c zs w hn hl
  | true =>
    have h : 2 ≤ zs.length ∧ zs.length ≤ 10 ∧ zs.length % 2 = 0 := by simpa [lenB] using hl
    obtain ⟨⟨h1, h2, A', c', he, h3⟩, hc⟩ := hr
    injection he with q1 q2 q3
    subst q1; subst q3
    obtain ⟨b, o, rfl, hb, hcell⟩ := h3 (by omega) (by omega)
    have e : trainRes zs = if gearsB zs = true then accK zs (zs.length / 2) else none := by simp [trainRes, hl]
    rw [e]
    exact ratio_main b o c (zs.length / 2) zs w (by omega) (by omega) (by omega) hc hb (fun j hj => hcell j (by omega))

set_option maxHeartbeats 1000000 in
theorem trainImpl_ok (A : Option Addr) (c : Nat) (zs : List Int) (w : World) (hr : RdI w A c zs) (hn : zs.length ≤ 1048576) (hg : Handle w) :
    Calls Tryd.prog 20 #[.slice A zs.length c] w (IIB (trainOut zs) w) := by
  have HG := hide hg
  have HR := hide (ratio_ok A c zs w hr hn)
  clear hr hg
  cases ht : trainRes zs with
  | some p =>
    have hF : Hid (trainOut zs = (p, true)) := by simp [trainOut, ht, Hid]
    rw [ht] at HR
    clear ht
    go_enter Tryd.func20, Tryd.ntmps20
    go_wp2_with fail
    refine HR.out.mono ?_
    rintro e w1 ⟨a, b, v, rfl, h1, _, hb1⟩
    obtain ⟨rfl, rfl, rfl⟩ := h1 p rfl
    clear h1
    go_wp2_with fail
    refine (fits_nil _).mono ?_
    rintro e w2 ⟨rfl, hb2⟩
    have hb := kept_trans hb1 hb2
    clear hb1 hb2
    go_wp2_with fail
    go_ret3
    exact ⟨by rw [hF.out]; rfl, hb⟩
  | none =>
    have hF : Hid (trainOut zs = ((0, 0), false)) := by simp [trainOut, ht, Hid]
    rw [ht] at HR
    clear ht
    go_enter Tryd.func20, Tryd.ntmps20
    go_wp2_with fail
    refine HR.out.mono ?_
    rintro e w1 ⟨a, b, v, rfl, _, h1, hb1⟩
    obtain ⟨rfl, rfl, hB⟩ := h1 rfl
    clear h1
    go_wp2_with fail
    refine (fits_bad v _ (handle_kept HG.out hb1) hB).mono ?_
    rintro e w2 ⟨rfl, hb2⟩
    have hb := kept_trans hb1 hb2
    clear hb1 hb2 hB
    go_wp2_with fail
    go_ret3
    exact ⟨by rw [hF.out]; rfl, hb⟩

theorem turnsImpl_ok (A : Option Addr) (c : Nat) (zs : List Int) (w : World) (hr : RdI w A c zs) (hn : zs.length ≤ 1048576) (hg : Handle w) :
    Calls Tryd.prog 23 #[.slice A zs.length c] w (IB2 (trainOut zs) w) := by
  have HR := hide (trainImpl_ok A c zs w hr hn hg)
  clear hr hg
  unfold IIB at HR
  unfold IB2
  generalize trainOut zs = x at *
  obtain ⟨⟨x, y⟩, b⟩ := x
  dsimp only at HR ⊢
  go_enter Tryd.func23, Tryd.ntmps23
  go_wp2_with fail
  refine HR.out.mono ?_
  rintro e w1 ⟨rfl, hb1⟩
  go_wp2_with fail
  go_ret2
  exact ⟨rfl, hb1⟩

end Go.Proofs.YtiiocjkhjogfkaaDoor
